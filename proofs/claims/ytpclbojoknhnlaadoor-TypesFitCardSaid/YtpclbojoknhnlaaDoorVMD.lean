import Derived.Test.YtpclbojoknhnlaaDoorVMA
namespace Vg.G3
open Go Lg Vg.Nm
set_option linter.unusedSimpArgs false
set_option linter.unusedVariables false
set_option maxRecDepth 10000
set_option maxHeartbeats 8000000
attribute [local congr] bind_congr1
attribute [local go_sem] types_Goals_r0 types_Goals_r1 types_Goals_r2 types_Goals_r3 types_Goals_r4 types_Goals_r5 types_Goals_r6 types_Goals_r7 types_Goals_r8 types_Goals_r9 types_Goals_r10 types_Goals_r11 types_Goals_r12 types_Goals_r13 types_Goals_f types_Goals_v types_Check_r0 types_Check_r1 types_Check_r2 types_Check_f types_Check_v types_names_r0 types_names_r1 types_names_r2 types_names_r3 types_names_r4 types_names_r5 types_names_r6 types_names_r7 types_names_r8 types_names_f types_names_v

/-- A leaf that names what the works has not. -/
def Leaf.bad (q : Nat) (l : Leaf) : Bool := l.part && decide (q = 0)
theorem bad_iff {q : Nat} {l : Leaf} : (l.part = true ∧ q = 0) ↔ l.bad q = true := by unfold Leaf.bad; simp
def goalsV (q : Nat) (T : List Leaf) : List VV := if T.any (Leaf.bad q) then [.list .s [], .int .i64 16] else [.list .s (T.map Leaf.goal), .int .i64 0]
theorem Goals_spec {a p s q : Nat} (h1 : 1 ≤ a) (h2 : a ≤ 2) (h4 : p ≤ 2) (h5 : 1 ≤ s) (h6 : s ≤ 2) (hq : q = p ∨ q = 0) {nm : List UInt8} (hn : NM nm) {L : List St} (hL : L.length ≤ 1000) (hok : ∀ x ∈ L, x.ok a p s 2) (hw : (L.map St.wt).sum ≤ 100) (lo : Nat) (h : VHeap) :
    callVL vp lo n_types_Goals [.agg (smallV a q s), .agg [.str nm, .list .s (L.map St.row)]] h = some (.tup (goalsV q (L.flatMap St.leaves)), h) := by
  refine call_valE (fn := types_Goals_v) rfl rfl rfl rfl rfl ?_ lo h
  have hC := Check_spec hn hL hok
  rw [if_pos hw] at hC
  have hV := Leaves_spec hn hL hok hw
  have hTok : ∀ l ∈ L.flatMap St.leaves, l.ok a p s := fun l hl => by
    obtain ⟨x, hx, hl⟩ := List.mem_flatMap.1 hl
    exact St.leaves_ok x 2 (hok x hx) l hl
  have hTl : (L.flatMap St.leaves).length ≤ 100 := by
    refine Nat.le_trans ?_ hw
    clear hL hok hw hC hV hTok
    induction L with
    | nil => exact Nat.le_refl _
    | cons x L ih => rw [List.flatMap_cons, List.length_append, List.map_cons, List.sum_cons]; have := x.leaves_le; omega
  generalize L.flatMap St.leaves = T at *
  generalize L.map St.row = R at *
  have hB := fun l (hl : l ∈ T) => Bind_spec h1 h2 h4 h5 h6 (hTok l hl) hq
  clear hTok hok
  obtain ⟨P, hP⟩ : ∃ P : VV → Prop, P = fun w : VV => w = .tup (goalsV q T) := ⟨_, rfl⟩
  have hP1 : ¬ T.any (Leaf.bad q) = true → P (.tup [.list .s (T.map Leaf.goal), .int .i64 0]) := fun h => by subst hP; unfold goalsV; rw [if_neg h]
  have hP2 : T.any (Leaf.bad q) = true → P (.tup [.list .s [], .int .i64 16]) := fun h => by subst hP; unfold goalsV; rw [if_pos h]
  have hP3 : (fun r : VV × VHeap => r.1 = .tup (goalsV q T)) = fun r => P r.1 := by subst hP; rfl
  rw [hP3]
  clear hP hP3
  have hlen : (T.map Leaf.row).length = T.length := List.length_map _
  unfold smallV at *
  generalize armsR.take a = AR at *
  generalize partsR.take q = PR at *
  generalize slotsR.take s = SR at *
  simp -implicitDefEqProofs only [go_sem, ↓reduceIte, reduceCtorEq, Int.reduceLT, Int.reduceLE, Int.reduceToNat, Nat.reduceAdd, Nat.reduceMul, Nat.reduceLeDiff, Nat.reduceLT, Nat.reduceSub, Int.reduceNeg, Int.reduceEq, Int.reduceBEq, Int.reduceBNe, Nat.reduceEqDiff, hC, hV, hlen]
  rw [Sat_bind]
  refine loop_up (I := fun i env h' => h' = [.cells true [.list .s AR, .list .s [], .list .s PR, .list .s SR, .list .s [], .bool false, .str [], .str []], .cells true [.str nm, .list .s R]] ∧ (T.take i).any (Leaf.bad q) = false ∧ env = [.undef, .undef, .ptr 0 0, .undef, .undef, .undef, .undef, .list .o ((T.take i).map Leaf.goal), .undef, .undef, .undef, .undef, .undef, .undef, .undef, .undef, .undef, .undef, .list .s (T.map Leaf.row), .int .i64 ((T.length : Nat) : Int), .int .i64 ((i : Nat) : Int), .undef, .undef, .undef, .undef, .undef, .undef, .undef, .undef, .undef, .undef, .undef, .undef, .undef, .undef, .undef, .undef, .undef, .undef]) T.length ?_ ?_ (Nat.zero_le _) ⟨by simp -implicitDefEqProofs only [go_sem, ↓reduceIte, reduceCtorEq, Int.reduceLT, Int.reduceLE, Int.reduceToNat, Nat.reduceAdd, Nat.reduceMul, Nat.reduceLeDiff, Nat.reduceLT, Nat.reduceSub, Int.reduceNeg, Int.reduceEq, Int.reduceBEq, Int.reduceBNe, Nat.reduceEqDiff], by simp, by simp -implicitDefEqProofs only [go_sem, ↓reduceIte, reduceCtorEq, Int.reduceLT, Int.reduceLE, Int.reduceToNat, Nat.reduceAdd, Nat.reduceMul, Nat.reduceLeDiff, Nat.reduceLT, Nat.reduceSub, Int.reduceNeg, Int.reduceEq, Int.reduceBEq, Int.reduceBNe, Nat.reduceEqDiff, List.take_zero, List.map_nil, cast0]⟩
  · rintro i env h' hi ⟨rfl, hs, rfl⟩
    have hi' : (i : Int) < (T.length : Int) := by omega
    obtain ⟨x, hx⟩ : ∃ x, T[i]? = some x := ⟨T[i], List.getElem?_eq_getElem hi⟩
    have hg := get_map (F := Leaf.row) hx
    have hb := hB x (List.mem_of_getElem? hx)
    have wi := wrap_succ (i := i) (by omega)
    have hro : (i + 1 + 512) * 32 ≤ 140737488355328 := by omega
    have hta : T.take (i + 1) = T.take i ++ [x] := by rw [List.take_add_one, hx]; rfl
    have hml : ((T.take i).map Leaf.goal).length = i := by rw [List.length_map, List.length_take]; omega
    have hall : (((T.take i).map Leaf.goal).all fun x => decide (x.length = 4)) = true := by rw [List.all_eq_true]; intro r hr; obtain ⟨y, _, rfl⟩ := List.mem_map.1 hr; rfl
    rw [hta, List.map_append, List.any_append, hs, List.map_cons, List.map_nil]
    by_cases hbd : x.bad q = true
    · have hP4 := hP2 (List.any_eq_true.2 ⟨x, List.mem_of_getElem? hx, hbd⟩)
      simp only [bad_iff, hbd, if_true] at hb
      unfold Leaf.row at *
      generalize x.kind = K at *
      generalize x.A = A at *
      generalize x.B = B at *
      generalize Vg.G3.wn x.d = n' at *
      generalize Vg.G3.wd x.d = d' at *
      generalize x.n = N at *
      simp -implicitDefEqProofs only [types_Goals_b0, go_sem, ↓reduceIte, reduceCtorEq, Int.reduceLT, Int.reduceLE, Int.reduceToNat, Nat.reduceAdd, Nat.reduceMul, Nat.reduceLeDiff, Nat.reduceLT, Nat.reduceSub, Int.reduceNeg, Int.reduceEq, Int.reduceBEq, Int.reduceBNe, Nat.reduceEqDiff, hi', hg, hb]
      exact hP4
    · have hbd' : x.bad q = false := by simpa using hbd
      simp only [bad_iff, hbd, if_false] at hb
      unfold Leaf.row at *
      unfold Leaf.goal at *
      generalize x.kind = K at *
      generalize x.A = A at *
      generalize x.B = B at *
      generalize Vg.G3.wn x.d = n' at *
      generalize Vg.G3.wd x.d = d' at *
      generalize x.n = N at *
      generalize x.ga = ga at *
      generalize x.gb = gb at *
      generalize hG : (T.take i).map (fun l : Leaf => [VV.int .i64 l.kind, .int .i64 l.ga, .int .i64 l.gb, .int .i64 l.n]) = G at *
      simp -implicitDefEqProofs only [types_Goals_b0, go_sem, ↓reduceIte, reduceCtorEq, Int.reduceLT, Int.reduceLE, Int.reduceToNat, Nat.reduceAdd, Nat.reduceMul, Nat.reduceLeDiff, Nat.reduceLT, Nat.reduceSub, Int.reduceNeg, Int.reduceEq, Int.reduceBEq, Int.reduceBNe, Nat.reduceEqDiff, hi', hg, hb, wi, hml, hro, hall, hbd', List.any_cons, List.any_nil]
  · rintro env h' ⟨rfl, hs, rfl⟩
    rw [List.take_length] at hs ⊢
    have hP5 := hP1 (by rw [hs]; decide)
    simp -implicitDefEqProofs only [types_Goals_b0, go_sem, ↓reduceIte, reduceCtorEq, Int.reduceLT, Int.reduceLE, Int.reduceToNat, Nat.reduceAdd, Nat.reduceMul, Nat.reduceLeDiff, Nat.reduceLT, Nat.reduceSub, Int.reduceNeg, Int.reduceEq, Int.reduceBEq, Int.reduceBNe, Nat.reduceEqDiff, Int.lt_irrefl]
    exact hP5
/-- Check of a job against a works. -/
theorem tCheck_spec {a p s q : Nat} (h1 : 1 ≤ a) (h2 : a ≤ 2) (h4 : p ≤ 2) (h5 : 1 ≤ s) (h6 : s ≤ 2) (hq : q = p ∨ q = 0) {nm : List UInt8} (hn : NM nm) {L : List St} (hL : L.length ≤ 1000) (hok : ∀ x ∈ L, x.ok a p s 2) (hw : (L.map St.wt).sum ≤ 100) (lo : Nat) (h : VHeap) :
    callVL vp lo n_types_Check [.agg [.str nm, .list .s (L.map St.row)], .agg (smallV a q s)] h = some (.int .i64 (if (L.flatMap St.leaves).any (Leaf.bad q) then 16 else 0), h) := by
  refine call_valE (fn := types_Check_v) rfl rfl rfl rfl rfl ?_ lo h
  have hG := Goals_spec h1 h2 h4 h5 h6 hq hn hL hok hw
  generalize L.flatMap St.leaves = T at *
  generalize L.map St.row = R at *
  unfold goalsV at hG
  unfold smallV at *
  by_cases hb : T.any (Leaf.bad q) = true
  · rw [if_pos hb] at hG
    rw [if_pos hb]
    simp -implicitDefEqProofs only [go_sem, ↓reduceIte, reduceCtorEq, Int.reduceLT, Int.reduceLE, Int.reduceToNat, Nat.reduceAdd, Nat.reduceMul, Nat.reduceLeDiff, Nat.reduceLT, Nat.reduceSub, Int.reduceNeg, Int.reduceEq, Int.reduceBEq, Int.reduceBNe, Nat.reduceEqDiff, hG]
  · rw [if_neg hb] at hG
    rw [if_neg hb]
    generalize T.map Leaf.goal = Z at *
    simp -implicitDefEqProofs only [go_sem, ↓reduceIte, reduceCtorEq, Int.reduceLT, Int.reduceLE, Int.reduceToNat, Nat.reduceAdd, Nat.reduceMul, Nat.reduceLeDiff, Nat.reduceLT, Nat.reduceSub, Int.reduceNeg, Int.reduceEq, Int.reduceBEq, Int.reduceBNe, Nat.reduceEqDiff, hG]
def Leaf.ka (l : Leaf) : Int := if l.kind = 1 ∨ l.kind = 2 ∨ l.kind = 4 then 2 else if l.kind = 3 then 1 else 0
def Leaf.kb (l : Leaf) : Int := if l.kind = 1 then 3 else if l.kind = 2 then 1 else 0
/-- Names a thing of a kind. -/
def Leaf.hit (k i : Int) (l : Leaf) : Bool := (decide (l.ka = k) && decide (l.ga = i)) || (decide (l.kb = k) && decide (l.gb = i))
theorem names_spec (T : List Leaf) (hT : T.length ≤ 1000) (k i : Int) (lo : Nat) (h : VHeap) : callVL vp lo n_types_names [.list .s (T.map Leaf.goal), .int .i64 k, .int .i64 i] h = some (.bool (T.any (Leaf.hit k i)), h) := by
  refine call_valE (fn := types_names_v) rfl rfl rfl rfl rfl ?_ lo h
  obtain ⟨P, hP⟩ : ∃ P : VV → Prop, P = fun w : VV => w = .bool (T.any (Leaf.hit k i)) := ⟨_, rfl⟩
  have hP1 : T.any (Leaf.hit k i) = true → P (.bool true) := fun h => by subst hP; show _ = _; rw [h]
  have hP2 : T.any (Leaf.hit k i) = false → P (.bool false) := fun h => by subst hP; show _ = _; rw [h]
  have hP3 : (fun r : VV × VHeap => r.1 = .bool (T.any (Leaf.hit k i))) = fun r => P r.1 := by subst hP; rfl
  rw [hP3]
  clear hP hP3
  have hlen : (T.map Leaf.goal).length = T.length := List.length_map _
  simp -implicitDefEqProofs only [go_sem, ↓reduceIte, reduceCtorEq, Int.reduceLT, Int.reduceLE, Int.reduceToNat, Nat.reduceAdd, Nat.reduceMul, Nat.reduceLeDiff, Nat.reduceLT, Nat.reduceSub, Int.reduceNeg, Int.reduceEq, Int.reduceBEq, Int.reduceBNe, Nat.reduceEqDiff, hlen]
  rw [Sat_bind]
  refine loop_up (I := fun j env h' => h' = [] ∧ (T.take j).any (Leaf.hit k i) = false ∧ env = [.undef, .int .i64 k, .int .i64 i, .undef, .undef, .undef, .undef, .undef, .undef, .undef, .undef, .list .s (T.map Leaf.goal), .int .i64 ((T.length : Nat) : Int), .int .i64 ((j : Nat) : Int), .undef, .undef, .undef, .undef, .undef, .undef, .undef, .undef, .undef, .undef, .undef, .undef, .undef, .undef, .undef, .undef, .undef, .undef, .undef, .undef, .undef, .undef, .undef, .undef, .undef, .undef, .undef, .undef, .undef, .undef]) T.length ?_ ?_ (Nat.zero_le _) ⟨rfl, by simp, by simp -implicitDefEqProofs only [go_sem, ↓reduceIte, reduceCtorEq, Int.reduceLT, Int.reduceLE, Int.reduceToNat, Nat.reduceAdd, Nat.reduceMul, Nat.reduceLeDiff, Nat.reduceLT, Nat.reduceSub, Int.reduceNeg, Int.reduceEq, Int.reduceBEq, Int.reduceBNe, Nat.reduceEqDiff, cast0]⟩
  · rintro j env h' hj ⟨rfl, hs, rfl⟩
    have hj' : (j : Int) < (T.length : Int) := by omega
    obtain ⟨x, hx⟩ : ∃ x, T[j]? = some x := ⟨T[j], List.getElem?_eq_getElem hj⟩
    have hg := get_map (F := Leaf.goal) hx
    have hK := kinds_spec (k := x.kind) x.kind_bnd.1 x.kind_bnd.2
    have wj := wrap_succ (i := j) (by omega)
    have hta : T.take (j + 1) = T.take j ++ [x] := by rw [List.take_add_one, hx]; rfl
    have hpos : x.hit k i = true → P (.bool true) := fun h => hP1 (List.any_eq_true.2 ⟨x, List.mem_of_getElem? hx, h⟩)
    rw [hta, List.any_append, hs]
    simp only [List.any_cons, List.any_nil, Bool.or_false, Bool.false_or]
    change ∀ lo h, callVL vp lo n_types_kinds [.int .i64 x.kind] h = some (.tup [.int .i64 x.ka, .int .i64 x.kb], h) at hK
    unfold Leaf.hit at *
    unfold Leaf.goal at hg ⊢
    generalize x.kind = K at *
    generalize x.ka = ka at *
    generalize x.kb = kb at *
    generalize x.ga = ga at *
    generalize x.gb = gb at *
    generalize x.n = N at *
    generalize hG : (T.map fun l : Leaf => [VV.int .i64 l.kind, .int .i64 l.ga, .int .i64 l.gb, .int .i64 l.n]) = G at *
    by_cases c1 : ka = k <;> by_cases c2 : ga = i <;> by_cases c3 : kb = k <;> by_cases c4 : gb = i
    all_goals
      have hpos' := hpos
      simp only [c1, c2, c3, c4, decide_true, decide_false, Bool.and_true, Bool.and_false, Bool.or_true, Bool.or_false, Bool.true_or, Bool.false_or, Bool.true_and, Bool.false_and] at hpos'
      first
        | (have d1 := eq_false c1) | (have d1 := eq_true c1)
      first
        | (have d2 := eq_false c2) | (have d2 := eq_true c2)
      first
        | (have d3 := eq_false c3) | (have d3 := eq_true c3)
      first
        | (have d4 := eq_false c4) | (have d4 := eq_true c4)
      clear c1 c2 c3 c4 hpos
      simp -implicitDefEqProofs only [types_names_b0, go_sem, ↓reduceIte, reduceCtorEq, Int.reduceLT, Int.reduceLE, Int.reduceToNat, Nat.reduceAdd, Nat.reduceMul, Nat.reduceLeDiff, Nat.reduceLT, Nat.reduceSub, Int.reduceNeg, Int.reduceEq, Int.reduceBEq, Int.reduceBNe, Nat.reduceEqDiff, hj', hg, hK, wj, d1, d2, d3, d4]
      try first | exact hpos' | exact hpos' rfl | exact hpos' trivial
  · rintro env h' ⟨rfl, hs, rfl⟩
    rw [List.take_length] at hs
    have hP5 := hP2 hs
    simp -implicitDefEqProofs only [types_names_b0, go_sem, ↓reduceIte, reduceCtorEq, Int.reduceLT, Int.reduceLE, Int.reduceToNat, Nat.reduceAdd, Nat.reduceMul, Nat.reduceLeDiff, Nat.reduceLT, Nat.reduceSub, Int.reduceNeg, Int.reduceEq, Int.reduceBEq, Int.reduceBNe, Nat.reduceEqDiff, Int.lt_irrefl]
    exact hP5
end Vg.G3
namespace Vg.G3
open Go Lg Vg.Nm
set_option linter.unusedSimpArgs false
set_option linter.unusedVariables false
set_option maxRecDepth 10000
set_option maxHeartbeats 8000000
attribute [local congr] bind_congr1
attribute [local go_sem] types_Uses_r0 types_Uses_r1 types_Uses_r2 types_Uses_r3 types_Uses_r4 types_Uses_r5 types_Uses_r6 types_Uses_r7 types_Uses_r8 types_Uses_r9 types_Uses_r10 types_Uses_r11 types_Uses_r12 types_Uses_r13 types_Uses_r14 types_Uses_r15 types_Uses_r16 types_Uses_r17 types_Uses_r18 types_Uses_r19 types_Uses_r20 types_Uses_r21 types_Uses_f types_Uses_v cmp_isNaN_int_r0 cmp_isNaN_int_r1 cmp_isNaN_int_f cmp_isNaN_int_v cmp_Less_int_r0 cmp_Less_int_r1 cmp_Less_int_f cmp_Less_int_v slices_IsSorted_intint_r0 slices_IsSorted_intint_r1 slices_IsSorted_intint_r2 slices_IsSorted_intint_r3 slices_IsSorted_intint_r3_d slices_IsSorted_intint_r4 slices_IsSorted_intint_r5 slices_IsSorted_intint_r6 slices_IsSorted_intint_f slices_IsSorted_intint_v

theorem mm_max3 (k k' k'' : IntKind) (a b c : Int) : mmE true (.int k a) [.int k' b, .int k'' c] = some (.int k (max (max a b) c)) := by
  simp only [mmE, if_true]; congr 2; omega
/-- The things of a kind that are named. -/
def fl (T : List Leaf) (k : Int) (i : Nat) : List (List VV) := ((List.range i).filter fun j => T.any (Leaf.hit k (j : Nat))).map fun j => [.int .i64 (j : Nat)]
theorem fl_succ (T : List Leaf) (k : Int) (i : Nat) : fl T k (i + 1) = if T.any (Leaf.hit k (i : Nat)) = true then fl T k i ++ [[.int .i64 (i : Nat)]] else fl T k i := by
  unfold fl
  rw [List.range_succ, List.filter_append, List.map_append]
  by_cases h : T.any (Leaf.hit k (i : Nat)) = true
  · rw [if_pos h]; simp [List.filter_cons, h]
  · rw [if_neg h]; simp [List.filter_cons, h]
theorem fl_len (T : List Leaf) (k : Int) (i : Nat) : (fl T k i).length ≤ i := by
  unfold fl
  rw [List.length_map]
  exact Nat.le_trans (List.length_filter_le _ _) (by rw [List.length_range]; exact Nat.le_refl _)
theorem fl_all (T : List Leaf) (k : Int) (i : Nat) : ((fl T k i).all fun x => decide (x.length = 1)) = true := by
  rw [List.all_eq_true]; intro r hr; obtain ⟨y, _, rfl⟩ := List.mem_map.1 hr; rfl
theorem Uses_spec {a p s : Nat} (h1 : 1 ≤ a) (h2 : a ≤ 2) (h3 : 1 ≤ p) (h4 : p ≤ 2) (h5 : 1 ≤ s) (h6 : s ≤ 2) {nm : List UInt8} (hn : NM nm) {L : List St} (hL : L.length ≤ 1000) (hok : ∀ x ∈ L, x.ok a p s 2) (hw : (L.map St.wt).sum ≤ 100) (lo : Nat) (h : VHeap) :
    callVL vp lo n_types_Uses [.agg (smallV a p s), .agg [.str nm, .list .s (L.map St.row)]] h = some (.tup [.list .s (fl (L.flatMap St.leaves) 1 (max (max a p) s)), .list .s (fl (L.flatMap St.leaves) 2 (max (max a p) s)), .list .s (fl (L.flatMap St.leaves) 3 (max (max a p) s)), .int .i64 0], h) := by
  refine call_valE (fn := types_Uses_v) rfl rfl rfl rfl rfl ?_ lo h
  have hG := Goals_spec h1 h2 h4 h5 h6 (.inl rfl) hn hL hok hw
  have hTl : (L.flatMap St.leaves).length ≤ 100 := by
    refine Nat.le_trans ?_ hw
    clear hL hok hw hG
    induction L with
    | nil => exact Nat.le_refl _
    | cons x L ih => rw [List.flatMap_cons, List.length_append, List.map_cons, List.sum_cons]; have := x.leaves_le; omega
  generalize L.flatMap St.leaves = T at *
  generalize L.map St.row = R at *
  have hb : ¬ T.any (Leaf.bad p) = true := by
    rw [List.any_eq_true]
    rintro ⟨x, _, hx⟩
    unfold Leaf.bad at hx
    simp only [Bool.and_eq_true, decide_eq_true_eq] at hx
    omega
  unfold goalsV at hG
  rw [if_neg hb] at hG
  have hN := names_spec T (by omega)
  have lA := take_len (l := armsR) rfl h2
  have lP := take_len (l := partsR) rfl h4
  have lS := take_len (l := slotsR) rfl h6
  have hmx : max (max (a : Int) (p : Int)) (s : Int) = ((max (max a p) s : Nat) : Int) := by omega
  have hm2 : max (max a p) s ≤ 2 := by omega
  generalize max (max a p) s = m at *
  generalize T.map Leaf.goal = Z at *
  unfold smallV at *
  generalize armsR.take a = AR at *
  generalize partsR.take p = PR at *
  generalize slotsR.take s = SR at *
  obtain ⟨P, hP⟩ : ∃ P : VV → Prop, P = fun w : VV => w = .tup [.list .s (fl T 1 m), .list .s (fl T 2 m), .list .s (fl T 3 m), .int .i64 0] := ⟨_, rfl⟩
  have hP1 : P (.tup [.list .s (fl T 1 m), .list .s (fl T 2 m), .list .s (fl T 3 m), .int .i64 0]) := by subst hP; rfl
  have hP3 : (fun r : VV × VHeap => r.1 = .tup [.list .s (fl T 1 m), .list .s (fl T 2 m), .list .s (fl T 3 m), .int .i64 0]) = fun r => P r.1 := by subst hP; rfl
  rw [hP3]
  clear hP hP3
  simp -implicitDefEqProofs only [go_sem, ↓reduceIte, reduceCtorEq, Int.reduceLT, Int.reduceLE, Int.reduceToNat, Nat.reduceAdd, Nat.reduceMul, Nat.reduceLeDiff, Nat.reduceLT, Nat.reduceSub, Int.reduceNeg, Int.reduceEq, Int.reduceBEq, Int.reduceBNe, Nat.reduceEqDiff, hG, lA, lP, lS, mm_max3, hmx]
  rw [Sat_bind]
  refine loop_up (I := fun i env h' => h' = [.cells true [.list .s AR, .list .s [], .list .s PR, .list .s SR, .list .s [], .bool false, .str [], .str []], .cells true [.str nm, .list .s R]] ∧ env = (VV.undef :: VV.undef :: VV.undef :: VV.undef :: VV.undef :: VV.undef :: VV.undef :: VV.undef :: (.list .s Z : VV) :: VV.undef :: (.list .o (fl T 1 i) : VV) :: (.list .o (fl T 2 i) : VV) :: (.list .o (fl T 3 i) : VV) :: VV.undef :: VV.undef :: VV.undef :: VV.undef :: VV.undef :: VV.undef :: VV.undef :: VV.undef :: VV.undef :: VV.undef :: VV.undef :: VV.undef :: VV.undef :: VV.undef :: VV.undef :: VV.undef :: VV.undef :: VV.undef :: VV.undef :: VV.undef :: VV.undef :: (.int .i64 ((m : Nat) : Int) : VV) :: (.int .i64 ((i : Nat) : Int) : VV) :: VV.undef :: VV.undef :: VV.undef :: VV.undef :: VV.undef :: VV.undef :: VV.undef :: VV.undef :: VV.undef :: VV.undef :: VV.undef :: VV.undef :: VV.undef :: VV.undef :: VV.undef :: VV.undef :: VV.undef :: VV.undef :: VV.undef :: VV.undef :: VV.undef :: VV.undef :: VV.undef :: VV.undef :: VV.undef :: VV.undef :: VV.undef :: VV.undef :: VV.undef :: VV.undef :: VV.undef :: VV.undef :: VV.undef :: VV.undef :: VV.undef :: VV.undef :: VV.undef :: [])) m ?_ ?_ (Nat.zero_le _) ⟨by simp -implicitDefEqProofs only [go_sem, ↓reduceIte, reduceCtorEq, Int.reduceLT, Int.reduceLE, Int.reduceToNat, Nat.reduceAdd, Nat.reduceMul, Nat.reduceLeDiff, Nat.reduceLT, Nat.reduceSub, Int.reduceNeg, Int.reduceEq, Int.reduceBEq, Int.reduceBNe, Nat.reduceEqDiff], by simp -implicitDefEqProofs only [go_sem, ↓reduceIte, reduceCtorEq, Int.reduceLT, Int.reduceLE, Int.reduceToNat, Nat.reduceAdd, Nat.reduceMul, Nat.reduceLeDiff, Nat.reduceLT, Nat.reduceSub, Int.reduceNeg, Int.reduceEq, Int.reduceBEq, Int.reduceBNe, Nat.reduceEqDiff, cast0]; rfl⟩
  · rintro i env h' hi ⟨rfl, rfl⟩
    have hi' : (i : Int) < (m : Int) := by omega
    have wi := wrap_succ (i := i) (by omega)
    have w0 : IntKind.i64.wrap (0 + 1) = 1 := by decide
    have w1 : IntKind.i64.wrap (1 + 1) = 2 := by decide
    have w2 : IntKind.i64.wrap (2 + 1) = 3 := by decide
    have n1 := hN 1 (i : Nat)
    have n2 := hN 2 (i : Nat)
    have n3 := hN 3 (i : Nat)
    have s1 := fl_succ T 1 i
    have s2 := fl_succ T 2 i
    have s3 := fl_succ T 3 i
    have a1 := fl_all T 1 i
    have a2 := fl_all T 2 i
    have a3 := fl_all T 3 i
    have r1 : ((fl T 1 i).length + 1 + 512) * 8 ≤ 140737488355328 := by have := fl_len T 1 i; omega
    have r2 : ((fl T 2 i).length + 1 + 512) * 8 ≤ 140737488355328 := by have := fl_len T 2 i; omega
    have r3 : ((fl T 3 i).length + 1 + 512) * 8 ≤ 140737488355328 := by have := fl_len T 3 i; omega
    rw [s1, s2, s3]
    clear hN hG hP1 s1 s2 s3
    generalize fl T 1 i = F1 at *
    generalize fl T 2 i = F2 at *
    generalize fl T 3 i = F3 at *
    generalize T.any (Leaf.hit 1 (i : Nat)) = b1 at *
    generalize T.any (Leaf.hit 2 (i : Nat)) = b2 at *
    generalize T.any (Leaf.hit 3 (i : Nat)) = b3 at *
    cases b1 <;> cases b2 <;> cases b3 <;> simp -implicitDefEqProofs (maxSteps := 1000000) only [types_Uses_b1, types_Uses_b0, go_sem, ↓reduceIte, reduceCtorEq, Int.reduceLT, Int.reduceLE, Int.reduceToNat, Nat.reduceAdd, Nat.reduceMul, Nat.reduceLeDiff, Nat.reduceLT, Nat.reduceSub, Int.reduceNeg, Int.reduceEq, Int.reduceBEq, Int.reduceBNe, Nat.reduceEqDiff, loopV_eq, ↓thenV_norm, ↓thenV_exit, ↓thenV_ret, hi', n1, n2, n3, a1, a2, a3, r1, r2, r3, wi, w0, w1, w2, Int.lt_irrefl]
  · rintro env h' ⟨rfl, rfl⟩
    simp -implicitDefEqProofs only [types_Uses_b1, types_Uses_b0, go_sem, ↓reduceIte, reduceCtorEq, Int.reduceLT, Int.reduceLE, Int.reduceToNat, Nat.reduceAdd, Nat.reduceMul, Nat.reduceLeDiff, Nat.reduceLT, Nat.reduceSub, Int.reduceNeg, Int.reduceEq, Int.reduceBEq, Int.reduceBNe, Nat.reduceEqDiff, Int.lt_irrefl]
    exact hP1
theorem Less_spec (x y : Int) (lo : Nat) (h : VHeap) : callVL vp lo n_cmp_Less_int [.int .i64 x, .int .i64 y] h = some (.bool (decide (x < y)), h) := by
  have hN : ∀ lo h, callVL vp lo n_cmp_isNaN_int [.int .i64 x] h = some (.bool false, h) := fun lo h => by
    refine call_valE (fn := cmp_isNaN_int_v) rfl rfl rfl rfl rfl ?_ lo h
    simp -implicitDefEqProofs only [go_sem, ↓reduceIte, reduceCtorEq, Int.reduceLT, Int.reduceLE, Int.reduceToNat, Nat.reduceAdd, Nat.reduceMul, Nat.reduceLeDiff, Nat.reduceLT, Nat.reduceSub, Int.reduceNeg, Int.reduceEq, Int.reduceBEq, Int.reduceBNe, Nat.reduceEqDiff]
  refine call_valE (fn := cmp_Less_int_v) rfl rfl rfl rfl rfl ?_ lo h
  simp -implicitDefEqProofs only [go_sem, ↓reduceIte, reduceCtorEq, Int.reduceLT, Int.reduceLE, Int.reduceToNat, Nat.reduceAdd, Nat.reduceMul, Nat.reduceLeDiff, Nat.reduceLT, Nat.reduceSub, Int.reduceNeg, Int.reduceEq, Int.reduceBEq, Int.reduceBNe, Nat.reduceEqDiff, hN]
theorem Sorted_two (b0 b1 : Bool) (lo : Nat) (h : VHeap) : callVL vp lo n_slices_IsSorted_intint [.list .s ((if b0 then [[.int .i64 0]] else []) ++ (if b1 then [[.int .i64 1]] else []))] h = some (.bool true, h) := by
  refine call_valE (fn := slices_IsSorted_intint_v) rfl rfl rfl rfl (by cases b0 <;> cases b1 <;> rfl) ?_ lo h
  have hL := Less_spec 1 0
  have e : decide ((1 : Int) < 0) = false := by decide
  rw [e] at hL
  have w0 : IntKind.i64.wrap (0 - 1) = -1 := by decide
  have w1 : IntKind.i64.wrap (1 - 1) = 0 := by decide
  have w2 : IntKind.i64.wrap (2 - 1) = 1 := by decide
  cases b0 <;> cases b1 <;> simp -implicitDefEqProofs (maxSteps := 1000000) only [slices_IsSorted_intint_b0, go_sem, ↓reduceIte, reduceCtorEq, Int.reduceLT, Int.reduceLE, Int.reduceToNat, Nat.reduceAdd, Nat.reduceMul, Nat.reduceLeDiff, Nat.reduceLT, Nat.reduceSub, Int.reduceNeg, Int.reduceEq, Int.reduceBEq, Int.reduceBNe, Nat.reduceEqDiff, loopV_eq, ↓thenV_norm, ↓thenV_exit, ↓thenV_ret, hL, w0, w1, w2, Int.lt_irrefl]
end Vg.G3
namespace Vg.G3
open Go Lg Vg.Nm
set_option linter.unusedSimpArgs false
set_option linter.unusedVariables false
set_option maxRecDepth 10000
set_option maxHeartbeats 8000000
attribute [local congr] bind_congr1
attribute [local go_sem] types_Find_r0 types_Find_r1 types_Find_r2 types_Find_r3 types_Find_r4 types_Find_r5 types_Find_r6 types_Find_r7 types_Find_r8 types_Find_r9 types_Find_r10 types_Find_r11 types_Find_r12 types_Find_r13 types_Find_r14 types_Find_r15 types_Find_r16 types_Find_r17 types_Find_r18 types_Find_r19 types_Find_r20 types_Find_r21 types_Find_r22 types_Find_r23 types_Find_r24 types_Find_r25 types_Find_f types_Find_v gantkeep4_typed_r0 gantkeep4_typed_r1 gantkeep4_typed_r2 gantkeep4_typed_f gantkeep4_typed_v gantkeep4_TypesFit_r0 gantkeep4_TypesFit_r1 gantkeep4_TypesFit_r2 gantkeep4_TypesFit_r3 gantkeep4_TypesFit_r4 gantkeep4_TypesFit_r5 gantkeep4_TypesFit_r6 gantkeep4_TypesFit_r7 gantkeep4_TypesFit_r8 gantkeep4_TypesFit_r9 gantkeep4_TypesFit_r10 gantkeep4_TypesFit_r11 gantkeep4_TypesFit_r12 gantkeep4_TypesFit_r13 gantkeep4_TypesFit_r14 gantkeep4_TypesFit_f gantkeep4_TypesFit_v

theorem typed_spec (lo : Nat) (h : VHeap) : callVL vp lo n_gantkeep4_typed [] h = some (.bool true, h) := by
  refine call_valE (fn := gantkeep4_typed_v) rfl rfl rfl rfl rfl ?_ lo h
  have w0 : IntKind.i64.wrap (0 + 1) = 1 := by decide
  have hF : ∀ (lo : Nat) (h : VHeap), callVL vp lo n_types_Find [.agg [.list .s [], .list .s [], .list .s [], .list .s [[.str [97], .bool false, .str [], .str [], .bool false, .str [], .str [], .bool false, .bool false, .str [], .str [], .bool false, .str [], .str []], [.str [98], .bool false, .str [], .str [], .bool false, .str [], .str [], .bool false, .bool false, .str [], .str [], .bool false, .str [], .str []]], .list .s [], .bool false, .str [], .str []], .str [98]] h = some (.tup [.int .i64 3, .int .i64 1], h) := by
    intro lo h
    refine call_valE (fn := types_Find_v) rfl rfl rfl rfl rfl ?_ lo h
    have b : (([97] : List UInt8) == [98]) = false := by decide
    have b2 : (([98] : List UInt8) == [98]) = true := by decide
    simp -implicitDefEqProofs only [types_Find_b0, types_Find_b1, types_Find_b2, types_Find_b3, go_sem, ↓reduceIte, reduceCtorEq, Int.reduceLT, Int.reduceLE, Int.reduceToNat, Nat.reduceAdd, Nat.reduceMul, Nat.reduceLeDiff, Nat.reduceLT, Nat.reduceSub, Int.reduceNeg, Int.reduceEq, Int.reduceBEq, Int.reduceBNe, Nat.reduceEqDiff, loopV_eq, ↓thenV_norm, ↓thenV_exit, ↓thenV_ret, b, b2, w0]
  simp -implicitDefEqProofs only [go_sem, ↓reduceIte, reduceCtorEq, Int.reduceLT, Int.reduceLE, Int.reduceToNat, Nat.reduceAdd, Nat.reduceMul, Nat.reduceLeDiff, Nat.reduceLT, Nat.reduceSub, Int.reduceNeg, Int.reduceEq, Int.reduceBEq, Int.reduceBNe, Nat.reduceEqDiff, hF]
theorem fl_two (T : List Leaf) (k : Int) {m : Nat} (h : m ≤ 2) : ∃ b0 b1 : Bool, fl T k m = (if b0 then [[.int .i64 0]] else []) ++ (if b1 then [[.int .i64 1]] else []) := by
  have hm : m = 0 ∨ m = 1 ∨ m = 2 := by omega
  have e0 : fl T k 0 = [] := rfl
  have e1 := fl_succ T k 0
  have e2 := fl_succ T k 1
  rw [e0] at e1
  rcases hm with rfl | rfl | rfl
  · exact ⟨false, false, rfl⟩
  · refine ⟨T.any (Leaf.hit k ((0 : Nat) : Int)), false, ?_⟩
    rw [e1]
    cases T.any (Leaf.hit k ((0 : Nat) : Int)) <;> rfl
  · refine ⟨T.any (Leaf.hit k ((0 : Nat) : Int)), T.any (Leaf.hit k ((1 : Nat) : Int)), ?_⟩
    rw [e2, e1]
    cases T.any (Leaf.hit k ((0 : Nat) : Int)) <;> cases T.any (Leaf.hit k ((1 : Nat) : Int)) <;> rfl
theorem fl_nil {T : List Leaf} {k : Int} {m : Nat} (h : fl T k m = []) {i : Nat} (hi : i < m) : T.any (Leaf.hit k (i : Nat)) = false := by
  unfold fl at h
  rw [List.map_eq_nil_iff, List.filter_eq_nil_iff] at h
  have := h i (List.mem_range.2 hi)
  simpa using this
theorem fl_ne {T : List Leaf} {k : Int} {m : Nat} (h : fl T k m ≠ []) : ∃ i : Nat, T.any (Leaf.hit k (i : Nat)) = true := by
  unfold fl at h
  obtain ⟨r, hr⟩ := List.exists_mem_of_ne_nil _ h
  obtain ⟨i, hi, _⟩ := List.mem_map.1 hr
  exact ⟨i, (List.mem_filter.1 hi).2⟩
theorem hit_part {k : Int} {l : Leaf} (h : l.hit 2 k = true) : l.part = true := by
  unfold Leaf.hit at h
  simp only [Bool.or_eq_true, Bool.and_eq_true, decide_eq_true_eq] at h
  cases l <;> simp [Leaf.ka, Leaf.kb, Leaf.kind, Leaf.part] at h ⊢
theorem part_hit {a p s : Nat} {l : Leaf} (g : l.ok a p s) (h : l.part = true) : ∃ i : Nat, i < p ∧ l.hit 2 (i : Nat) = true := by
  cases l with
  | put i j d => exact ⟨i, g.1, by simp [Leaf.hit, Leaf.ka, Leaf.kind, Leaf.ga]⟩
  | hold i j => exact ⟨i, g.1, by simp [Leaf.hit, Leaf.ka, Leaf.kind, Leaf.ga]⟩
  | see i => exact ⟨i, g, by simp [Leaf.hit, Leaf.ka, Leaf.kind, Leaf.ga]⟩
  | free j => simp [Leaf.part] at h
  | wait n => simp [Leaf.part] at h
theorem parts_iff {a p s m : Nat} {T : List Leaf} (hT : ∀ l ∈ T, l.ok a p s) (hm : p ≤ m) : T.any (Leaf.bad 0) = true ↔ fl T 2 m ≠ [] := by
  constructor
  · intro h e
    obtain ⟨l, hl, hb⟩ := List.any_eq_true.1 h
    unfold Leaf.bad at hb
    simp only [Bool.and_eq_true] at hb
    obtain ⟨i, hi, hh⟩ := part_hit (hT l hl) hb.1
    have := fl_nil e (Nat.lt_of_lt_of_le hi hm)
    rw [List.any_eq_false] at this
    exact this l hl hh
  · intro h
    obtain ⟨i, hi⟩ := fl_ne h
    obtain ⟨l, hl, hh⟩ := List.any_eq_true.1 hi
    exact List.any_eq_true.2 ⟨l, hl, by unfold Leaf.bad; rw [hit_part hh]; rfl⟩
/-- The law TypesFit. -/
theorem TypesFit_law (raw l : List Int) (lo : Nat) (h : VHeap) : callVL vp lo n_gantkeep4_TypesFit [.list .s (raw.map fun x => [.int .i64 x]), .list .s (l.map fun x => [.int .i64 x])] h = some (.bool true, h) := by
  refine call_valE (fn := gantkeep4_TypesFit_v) rfl rfl rfl rfl rfl ?_ lo h
  obtain ⟨a, p, s, h1, h2, h3, h4, h5, h6, hS⟩ := Small_spec raw
  have hJ := Job_spec h1 h2 h3 h4 h5 h6 l
  have gk := gS_ok h1 h2 h3 h4 h5 h6 2 l
  generalize (gS a p s 2 l).1 = J at *
  obtain ⟨g1, g2, g3⟩ := gk
  have hL : J.list.length ≤ 1000 := by rw [Sl.list_len]; omega
  have hok := Sl.ok_mem J g3
  have hw : (J.list.map St.wt).sum ≤ 100 := by
    have := sum_le_mul (l := J.list.map St.wt) (m := 21) fun x hx => by
      obtain ⟨y, hy, rfl⟩ := List.mem_map.1 hx
      exact wt_le 2 y (hok y hy)
    rw [List.length_map, Sl.list_len] at this
    omega
  have nt : NM [116, 97, 115, 107] := ⟨by decide, by decide, by decide, by decide⟩
  have hU := Uses_spec h1 h2 h3 h4 h5 h6 nt hL hok hw
  have hC := tCheck_spec h1 h2 h4 h5 h6 (.inl rfl) nt hL hok hw
  have hC0 := tCheck_spec (q := 0) h1 h2 h4 h5 h6 (.inr rfl) nt hL hok hw
  have hTok : ∀ l ∈ J.list.flatMap St.leaves, l.ok a p s := fun l hl => by
    obtain ⟨x, hx, hl⟩ := List.mem_flatMap.1 hl
    exact St.leaves_ok x 2 (hok x hx) l hl
  have hm2 : max (max a p) s ≤ 2 := by omega
  have hmp : p ≤ max (max a p) s := by omega
  unfold jobV at hJ
  rw [Sl.rows_eq] at hJ
  generalize J.list.map St.row = R at *
  generalize J.list.flatMap St.leaves = T at *
  generalize max (max a p) s = m at *
  have hb : ¬ T.any (Leaf.bad p) = true := by
    rw [List.any_eq_true]
    rintro ⟨x, _, hx⟩
    unfold Leaf.bad at hx
    simp only [Bool.and_eq_true, decide_eq_true_eq] at hx
    omega
  rw [if_neg hb] at hC
  have hpi := parts_iff hTok hmp
  have sA : ∀ k lo h, callVL vp lo n_slices_IsSorted_intint [.list .s (fl T k m)] h = some (.bool true, h) := fun k => by
    obtain ⟨b0, b1, e⟩ := fl_two T k hm2
    rw [e]
    exact Sorted_two b0 b1
  have lA : ∀ k, ¬ (2 : Int) < ((fl T k m).length : Int) := fun k => by have := fl_len T k m; omega
  have s1 := sA 1
  have s2 := sA 2
  have s3 := sA 3
  have l1 := lA 1
  have l2 := lA 2
  have l3 := lA 3
  have ht := typed_spec
  clear sA lA hTok hb hok hL hw g1 g2 g3
  have w0 : IntKind.i64.wrap (0 + 1) = 1 := by decide
  have w1 : IntKind.i64.wrap (1 + 1) = 2 := by decide
  have w2 : IntKind.i64.wrap (2 + 1) = 3 := by decide
  unfold smallV at *
  simp only [List.take_zero] at hC0
  generalize armsR.take a = AR at *
  generalize partsR.take p = PR at *
  generalize slotsR.take s = SR at *
  generalize fl T 1 m = F1 at *
  generalize fl T 2 m = F2 at *
  generalize fl T 3 m = F3 at *
  cases F2 with
  | nil =>
    have e : ¬ T.any (Leaf.bad 0) = true := fun h => hpi.1 h rfl
    rw [if_neg e] at hC0
    clear hpi e
    simp -implicitDefEqProofs (maxSteps := 1000000) only [gantkeep4_TypesFit_b0, go_sem, ↓reduceIte, reduceCtorEq, Int.reduceLT, Int.reduceLE, Int.reduceToNat, Nat.reduceAdd, Nat.reduceMul, Nat.reduceLeDiff, Nat.reduceLT, Nat.reduceSub, Int.reduceNeg, Int.reduceEq, Int.reduceBEq, Int.reduceBNe, Nat.reduceEqDiff, loopV_eq, ↓thenV_norm, ↓thenV_exit, ↓thenV_ret, hS, hJ, hU, hC, hC0, ht, s1, s2, s3, l1, l2, l3, w0, w1, w2, Int.lt_irrefl, cast0]
  | cons x F2 =>
    have e : T.any (Leaf.bad 0) = true := hpi.2 (by simp)
    rw [if_pos e] at hC0
    clear hpi e
    have lp : (0 : Int) < ((F2.length + 1 : Nat) : Int) := by omega
    rw [List.length_cons] at l2
    simp -implicitDefEqProofs (maxSteps := 1000000) only [gantkeep4_TypesFit_b0, go_sem, ↓reduceIte, reduceCtorEq, Int.reduceLT, Int.reduceLE, Int.reduceToNat, Nat.reduceAdd, Nat.reduceMul, Nat.reduceLeDiff, Nat.reduceLT, Nat.reduceSub, Int.reduceNeg, Int.reduceEq, Int.reduceBEq, Int.reduceBNe, Nat.reduceEqDiff, loopV_eq, ↓thenV_norm, ↓thenV_exit, ↓thenV_ret, hS, hJ, hU, hC, hC0, ht, s1, s2, s3, l1, l2, l3, w0, w1, w2, Int.lt_irrefl, lp]
end Vg.G3
