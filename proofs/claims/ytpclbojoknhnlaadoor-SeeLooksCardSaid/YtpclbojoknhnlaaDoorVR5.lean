import Derived.Test.YtpclbojoknhnlaaDoorVR3
namespace Vg.G3
open Go Lg Vg.Nm
set_option linter.unusedSimpArgs false
set_option linter.unusedVariables false
set_option maxRecDepth 10000
set_option maxHeartbeats 4000000
attribute [local congr] bind_congr1
attribute [local go_sem] rat_Good_r0 rat_Good_r1 rat_Good_r2 rat_Good_r3 rat_Good_f rat_Good_v rat_fit_r0 rat_fit_r1 rat_fit_r2 rat_fit_r3 rat_fit_f rat_fit_v rat_Cmp_r0 rat_Cmp_r1 rat_Cmp_r1_d rat_Cmp_r2 rat_Cmp_r3 rat_Cmp_r4 rat_Cmp_r5 rat_Cmp_r6 rat_Cmp_r6_d rat_Cmp_r7 rat_Cmp_r8 rat_Cmp_r9 rat_Cmp_f rat_Cmp_v rat_Min_r0 rat_Min_r1 rat_Min_r2 rat_Min_r3 rat_Min_f rat_Min_v span_Of_r0 span_Of_r1 span_Of_r2 span_Of_f span_Of_v span_Good_r0 span_Good_r1 span_Good_f span_Good_v see_norm_r0 see_norm_r1 see_norm_r2 see_norm_r3 see_norm_f see_norm_v span_fit_r0 span_fit_r1 span_fit_r2 span_fit_r3 span_fit_f span_fit_v span_Has_r0 span_Has_r1 span_Has_r2 span_Has_f span_Has_v see_within_r0 see_within_r1 see_within_r1_d see_within_r2 see_within_f see_within_v see_meet_r0 see_meet_r1 see_meet_r1_d see_meet_r2 see_meet_r2_d see_meet_r3 see_meet_r3_d see_meet_f see_meet_v

/-- A value that counts as a number. -/
structure FQ (v : List VV) (q : Rat) : Prop where
  form : ∃ b x y, v = [.bool b, .str x, .str y]
  sq : SQ q
  fit : ∀ lo h, callVL vp lo n_rat_fit [.agg v] h = some (.agg (rv q), h)
theorem SQ.fq {q : Rat} (g : SQ q) : FQ (rv q) q := ⟨rvx q, g, fitQ_spec g⟩
theorem SQ.zero : SQ 0 := ⟨by decide, by decide⟩
def rz : List VV := [.bool false, .str [], .str []]
theorem rz_fq : FQ rz 0 := by
  refine ⟨⟨_, _, _, rfl⟩, SQ.zero, fun lo h => ?_⟩
  have hG : ∀ lo h, callVL vp lo n_rat_Good [.agg rz] h = some (.bool false, h) := fun lo h => by
    refine call_valE (fn := rat_Good_v) rfl rfl rfl rfl rfl ?_ lo h
    unfold rz
    simp -implicitDefEqProofs only [go_sem, ↓reduceIte, reduceCtorEq, Int.reduceLT, Int.reduceLE, Int.reduceToNat, Nat.reduceAdd, Nat.reduceMul, Nat.reduceLeDiff, Nat.reduceLT, Nat.reduceSub, Int.reduceNeg, Int.reduceEq, Int.reduceBEq, Int.reduceBNe, Nat.reduceEqDiff, nil_nil]
  have hz := zeroQ_spec
  refine call_valE (fn := rat_fit_v) rfl rfl rfl rfl rfl ?_ lo h
  obtain ⟨b, x, y, e⟩ := rvx 0
  rw [e] at hz ⊢
  unfold rz at *
  simp -implicitDefEqProofs only [go_sem, ↓reduceIte, reduceCtorEq, Int.reduceLT, Int.reduceLE, Int.reduceToNat, Nat.reduceAdd, Nat.reduceMul, Nat.reduceLeDiff, Nat.reduceLT, Nat.reduceSub, Int.reduceNeg, Int.reduceEq, Int.reduceBEq, Int.reduceBNe, Nat.reduceEqDiff, hG, hz]
theorem CmpF_spec {u v : List VV} {p q : Rat} (gu : FQ u p) (gv : FQ v q) (lo : Nat) (h : VHeap) : callVL vp lo n_rat_Cmp [.agg u, .agg v] h = some (.int .i64 (cmpQ p q), h) := by
  obtain ⟨b1, x1, y1, rfl⟩ := gu.form
  obtain ⟨b2, x2, y2, rfl⟩ := gv.form
  refine call_valE (fn := rat_Cmp_v) rfl rfl rfl rfl rfl ?_ lo h
  have f1 := gu.fit
  have f2 := gv.fit
  have gp := gu.sq
  have gq := gv.sq
  have n1 := gp.num
  have d1 := gp.den
  have n2 := gq.num
  have d2 := gq.den
  have m1 := MulN_spec (m := p.num.natAbs) (n := q.den) (by omega) (by omega)
  have m2 := MulN_spec (m := q.num.natAbs) (n := p.den) (by omega) (by omega)
  have p1 : p.num.natAbs * q.den < 18446744073709551616 := Nat.lt_of_lt_of_le (Nat.mul_lt_mul'' n1 d2) (by decide)
  have p2 : q.num.natAbs * p.den < 18446744073709551616 := Nat.lt_of_lt_of_le (Nat.mul_lt_mul'' n2 d1) (by decide)
  have l1 := enc8 p1
  have l2 := enc8 p2
  have c := Cmp_spec (encB (p.num.natAbs * q.den)) (encB (q.num.natAbs * p.den)) (by omega) (by omega)
  rw [val_enc, val_enc] at c
  have e := cmpQ_num p q
  have hwr : IntKind.i64.wrap (0 - cmpN (p.num.natAbs * q.den) (q.num.natAbs * p.den)) = -cmpN (p.num.natAbs * q.den) (q.num.natAbs * p.den) := by
    have : -1 ≤ cmpN (p.num.natAbs * q.den) (q.num.natAbs * p.den) ∧ cmpN (p.num.natAbs * q.den) (q.num.natAbs * p.den) ≤ 1 := by
      unfold cmpN; split
      · decide
      · split <;> decide
    rw [wrap_id (by omega) (by omega)]; omega
  unfold rv at *
  clear gu gv
  generalize cmpQ p q = C at *
  generalize cmpN (p.num.natAbs * q.den) (q.num.natAbs * p.den) = R at *
  generalize encB (p.num.natAbs * q.den) = M1 at *
  generalize encB (q.num.natAbs * p.den) = M2 at *
  generalize encB p.num.natAbs = N1 at *
  generalize encB p.den = D1 at *
  generalize encB q.num.natAbs = N2 at *
  generalize encB q.den = D2 at *
  by_cases h1 : p.num < 0 <;> by_cases h2 : q.num < 0 <;> simp only [h1, h2, decide_true, decide_false, ne_eq, not_true, not_false_eq_true, if_true, if_false, reduceCtorEq, Bool.false_eq_true] at e f1 f2 ⊢ <;> subst e <;> simp -implicitDefEqProofs only [go_sem, ↓reduceIte, reduceCtorEq, Int.reduceLT, Int.reduceLE, Int.reduceToNat, Nat.reduceAdd, Nat.reduceMul, Nat.reduceLeDiff, Nat.reduceLT, Nat.reduceSub, Int.reduceNeg, Int.reduceEq, Int.reduceBEq, Int.reduceBNe, Nat.reduceEqDiff, f1, f2, m1, m2, c, hwr]
theorem MinF_spec {u v : List VV} {p q : Rat} (gu : FQ u p) (gv : FQ v q) (lo : Nat) (h : VHeap) : callVL vp lo n_rat_Min [.agg u, .agg v] h = some (.agg (rv (minQ p q)), h) := by
  obtain ⟨b3, x3, y3, rfl⟩ := gu.form
  obtain ⟨b4, x4, y4, rfl⟩ := gv.form
  refine call_valE (fn := rat_Min_v) rfl rfl rfl rfl rfl ?_ lo h
  have f1 := gu.fit
  have f2 := gv.fit
  have c := CmpF_spec gu gv
  have i := @cmpQ_le p q
  obtain ⟨b1, x1, y1, e1⟩ := rvx p
  obtain ⟨b2, x2, y2, e2⟩ := rvx q
  unfold minQ
  by_cases hle : p ≤ q
  · have i' := i.2 hle
    rw [if_pos hle]
    rw [e1] at f1 ⊢
    simp -implicitDefEqProofs only [go_sem, ↓reduceIte, reduceCtorEq, Int.reduceLT, Int.reduceLE, Int.reduceToNat, Nat.reduceAdd, Nat.reduceMul, Nat.reduceLeDiff, Nat.reduceLT, Nat.reduceSub, Int.reduceNeg, Int.reduceEq, Int.reduceBEq, Int.reduceBNe, Nat.reduceEqDiff, f1, c, i']
  · have i' : ¬ cmpQ p q ≤ 0 := fun h => hle (i.1 h)
    rw [if_neg hle]
    rw [e2] at f2 ⊢
    simp -implicitDefEqProofs only [go_sem, ↓reduceIte, reduceCtorEq, Int.reduceLT, Int.reduceLE, Int.reduceToNat, Nat.reduceAdd, Nat.reduceMul, Nat.reduceLeDiff, Nat.reduceLT, Nat.reduceSub, Int.reduceNeg, Int.reduceEq, Int.reduceBEq, Int.reduceBNe, Nat.reduceEqDiff, f2, c, i']
theorem minQ_self (p : Rat) : minQ p p = p := by unfold minQ; split <;> rfl
theorem spanOf_spec {u : List VV} {p : Rat} (gu : FQ u p) (lo : Nat) (h : VHeap) : callVL vp lo n_span_Of [.agg u] h = some (.agg (rv p ++ rv p), h) := by
  obtain ⟨b3, x3, y3, rfl⟩ := gu.form
  refine call_valE (fn := span_Of_v) rfl rfl rfl rfl rfl ?_ lo h
  have m := MinF_spec gu gu
  rw [minQ_self] at m
  obtain ⟨b1, x1, y1, e1⟩ := rvx p
  rw [e1] at m ⊢
  simp only [List.cons_append, List.nil_append]
  simp -implicitDefEqProofs only [go_sem, ↓reduceIte, reduceCtorEq, Int.reduceLT, Int.reduceLE, Int.reduceToNat, Nat.reduceAdd, Nat.reduceMul, Nat.reduceLeDiff, Nat.reduceLT, Nat.reduceSub, Int.reduceNeg, Int.reduceEq, Int.reduceBEq, Int.reduceBNe, Nat.reduceEqDiff, m]
theorem spanGood_spec {a b : Rat} (ga : SQ a) (gb : SQ b) (lo : Nat) (h : VHeap) : callVL vp lo n_span_Good [.agg (rv a ++ rv b)] h = some (.bool (decide (a ≤ b)), h) := by
  refine call_valE (fn := span_Good_v) rfl rfl rfl rfl rfl ?_ lo h
  have h1 := GoodQ_spec ga
  have h2 := GoodQ_spec gb
  have c := CmpQ_spec ga gb
  have i := @cmpQ_le a b
  obtain ⟨b1, x1, y1, e1⟩ := rvx a
  obtain ⟨b2, x2, y2, e2⟩ := rvx b
  rw [e1] at h1
  rw [e2] at h2
  rw [e1, e2] at c ⊢
  by_cases hle : a ≤ b
  · have i' := i.2 hle
    rw [decide_eq_true hle]
    simp only [List.cons_append, List.nil_append]
    simp -implicitDefEqProofs only [go_sem, ↓reduceIte, reduceCtorEq, Int.reduceLT, Int.reduceLE, Int.reduceToNat, Nat.reduceAdd, Nat.reduceMul, Nat.reduceLeDiff, Nat.reduceLT, Nat.reduceSub, Int.reduceNeg, Int.reduceEq, Int.reduceBEq, Int.reduceBNe, Nat.reduceEqDiff, h1, h2, c, i']
  · have i' : ¬ cmpQ a b ≤ 0 := fun h => hle (i.1 h)
    rw [decide_eq_false hle]
    simp only [List.cons_append, List.nil_append]
    simp -implicitDefEqProofs only [go_sem, ↓reduceIte, reduceCtorEq, Int.reduceLT, Int.reduceLE, Int.reduceToNat, Nat.reduceAdd, Nat.reduceMul, Nat.reduceLeDiff, Nat.reduceLT, Nat.reduceSub, Int.reduceNeg, Int.reduceEq, Int.reduceBEq, Int.reduceBNe, Nat.reduceEqDiff, h1, h2, c, i']
/-- A good span. -/
structure SP (a b : Rat) : Prop where
  ga : SQ a
  gb : SQ b
  le : a ≤ b
theorem norm_spec {a b : Rat} (g : SP a b) (lo : Nat) (h : VHeap) : callVL vp lo n_see_norm [.agg (rv a ++ rv b)] h = some (.agg (rv a ++ rv b), h) := by
  refine call_valE (fn := see_norm_v) rfl rfl rfl rfl rfl ?_ lo h
  have hG := spanGood_spec g.ga g.gb
  rw [decide_eq_true g.le] at hG
  obtain ⟨b1, x1, y1, e1⟩ := rvx a
  obtain ⟨b2, x2, y2, e2⟩ := rvx b
  rw [e1, e2] at hG ⊢
  simp only [List.cons_append, List.nil_append] at hG ⊢
  simp -implicitDefEqProofs only [go_sem, ↓reduceIte, reduceCtorEq, Int.reduceLT, Int.reduceLE, Int.reduceToNat, Nat.reduceAdd, Nat.reduceMul, Nat.reduceLeDiff, Nat.reduceLT, Nat.reduceSub, Int.reduceNeg, Int.reduceEq, Int.reduceBEq, Int.reduceBNe, Nat.reduceEqDiff, hG]
theorem spanfit_spec {a b : Rat} (g : SP a b) (lo : Nat) (h : VHeap) : callVL vp lo n_span_fit [.agg (rv a ++ rv b)] h = some (.agg (rv a ++ rv b), h) := by
  refine call_valE (fn := span_fit_v) rfl rfl rfl rfl rfl ?_ lo h
  have hG := spanGood_spec g.ga g.gb
  rw [decide_eq_true g.le] at hG
  obtain ⟨b1, x1, y1, e1⟩ := rvx a
  obtain ⟨b2, x2, y2, e2⟩ := rvx b
  rw [e1, e2] at hG ⊢
  simp only [List.cons_append, List.nil_append] at hG ⊢
  simp -implicitDefEqProofs only [go_sem, ↓reduceIte, reduceCtorEq, Int.reduceLT, Int.reduceLE, Int.reduceToNat, Nat.reduceAdd, Nat.reduceMul, Nat.reduceLeDiff, Nat.reduceLT, Nat.reduceSub, Int.reduceNeg, Int.reduceEq, Int.reduceBEq, Int.reduceBNe, Nat.reduceEqDiff, hG]
theorem spanHas_spec {a b p : Rat} {u : List VV} (g : SP a b) (gu : FQ u p) (lo : Nat) (h : VHeap) : callVL vp lo n_span_Has [.agg (rv a ++ rv b), .agg u] h = some (.bool (decide (a ≤ p) && decide (p ≤ b)), h) := by
  obtain ⟨b3, x3, y3, rfl⟩ := gu.form
  refine call_valE (fn := span_Has_v) rfl rfl rfl rfl rfl ?_ lo h
  have hF := spanfit_spec g
  have c1 := CmpF_spec g.ga.fq gu
  have c2 := CmpF_spec gu g.gb.fq
  have i1 := @cmpQ_le a p
  have i2 := @cmpQ_le p b
  obtain ⟨b1, x1, y1, e1⟩ := rvx a
  obtain ⟨b2, x2, y2, e2⟩ := rvx b
  rw [e1] at c1
  rw [e2] at c2
  rw [e1, e2] at hF ⊢
  simp only [List.cons_append, List.nil_append] at hF ⊢
  by_cases l1 : a ≤ p
  · have i1' := i1.2 l1
    by_cases l2 : p ≤ b
    · have i2' := i2.2 l2
      rw [decide_eq_true l1, decide_eq_true l2]
      simp -implicitDefEqProofs only [go_sem, ↓reduceIte, reduceCtorEq, Int.reduceLT, Int.reduceLE, Int.reduceToNat, Nat.reduceAdd, Nat.reduceMul, Nat.reduceLeDiff, Nat.reduceLT, Nat.reduceSub, Int.reduceNeg, Int.reduceEq, Int.reduceBEq, Int.reduceBNe, Nat.reduceEqDiff, hF, c1, c2, i1', i2', Bool.and_true, Bool.and_false]
    · have i2' : ¬ cmpQ p b ≤ 0 := fun h => l2 (i2.1 h)
      rw [decide_eq_true l1, decide_eq_false l2]
      simp -implicitDefEqProofs only [go_sem, ↓reduceIte, reduceCtorEq, Int.reduceLT, Int.reduceLE, Int.reduceToNat, Nat.reduceAdd, Nat.reduceMul, Nat.reduceLeDiff, Nat.reduceLT, Nat.reduceSub, Int.reduceNeg, Int.reduceEq, Int.reduceBEq, Int.reduceBNe, Nat.reduceEqDiff, hF, c1, c2, i1', i2', Bool.and_true, Bool.and_false]
  · have i1' : ¬ cmpQ a p ≤ 0 := fun h => l1 (i1.1 h)
    rw [decide_eq_false l1, Bool.false_and]
    simp -implicitDefEqProofs only [go_sem, ↓reduceIte, reduceCtorEq, Int.reduceLT, Int.reduceLE, Int.reduceToNat, Nat.reduceAdd, Nat.reduceMul, Nat.reduceLeDiff, Nat.reduceLT, Nat.reduceSub, Int.reduceNeg, Int.reduceEq, Int.reduceBEq, Int.reduceBNe, Nat.reduceEqDiff, hF, c1, i1', Bool.and_true, Bool.and_false]
theorem within_spec {a b c d : Rat} (g : SP a b) (k : SP c d) (lo : Nat) (h : VHeap) : callVL vp lo n_see_within [.agg (rv a ++ rv b), .agg (rv c ++ rv d)] h = some (.bool (decide (c ≤ a) && decide (b ≤ d)), h) := by
  refine call_valE (fn := see_within_v) rfl rfl rfl rfl rfl ?_ lo h
  have n1 := norm_spec g
  have n2 := norm_spec k
  have c1 := CmpQ_spec k.ga g.ga
  have c2 := CmpQ_spec g.gb k.gb
  have i1 := @cmpQ_le c a
  have i2 := @cmpQ_le b d
  obtain ⟨b1, x1, y1, e1⟩ := rvx a
  obtain ⟨b2, x2, y2, e2⟩ := rvx b
  obtain ⟨b3, x3, y3, e3⟩ := rvx c
  obtain ⟨b4, x4, y4, e4⟩ := rvx d
  rw [e3, e1] at c1
  rw [e2, e4] at c2
  rw [e1, e2] at n1
  rw [e3, e4] at n2
  rw [e1, e2, e3, e4]
  simp only [List.cons_append, List.nil_append] at n1 n2 ⊢
  by_cases l1 : c ≤ a
  · have i1' := i1.2 l1
    by_cases l2 : b ≤ d
    · have i2' := i2.2 l2
      rw [decide_eq_true l1, decide_eq_true l2]
      simp -implicitDefEqProofs only [go_sem, ↓reduceIte, reduceCtorEq, Int.reduceLT, Int.reduceLE, Int.reduceToNat, Nat.reduceAdd, Nat.reduceMul, Nat.reduceLeDiff, Nat.reduceLT, Nat.reduceSub, Int.reduceNeg, Int.reduceEq, Int.reduceBEq, Int.reduceBNe, Nat.reduceEqDiff, n1, n2, c1, c2, i1', i2', Bool.and_true, Bool.and_false]
    · have i2' : ¬ cmpQ b d ≤ 0 := fun h => l2 (i2.1 h)
      rw [decide_eq_true l1, decide_eq_false l2]
      simp -implicitDefEqProofs only [go_sem, ↓reduceIte, reduceCtorEq, Int.reduceLT, Int.reduceLE, Int.reduceToNat, Nat.reduceAdd, Nat.reduceMul, Nat.reduceLeDiff, Nat.reduceLT, Nat.reduceSub, Int.reduceNeg, Int.reduceEq, Int.reduceBEq, Int.reduceBNe, Nat.reduceEqDiff, n1, n2, c1, c2, i1', i2', Bool.and_true, Bool.and_false]
  · have i1' : ¬ cmpQ c a ≤ 0 := fun h => l1 (i1.1 h)
    rw [decide_eq_false l1, Bool.false_and]
    simp -implicitDefEqProofs only [go_sem, ↓reduceIte, reduceCtorEq, Int.reduceLT, Int.reduceLE, Int.reduceToNat, Nat.reduceAdd, Nat.reduceMul, Nat.reduceLeDiff, Nat.reduceLT, Nat.reduceSub, Int.reduceNeg, Int.reduceEq, Int.reduceBEq, Int.reduceBNe, Nat.reduceEqDiff, n1, n2, c1, i1', Bool.and_true, Bool.and_false]
theorem maxQ_sq {a b : Rat} (ga : SQ a) (gb : SQ b) : SQ (maxQ a b) := by unfold maxQ; split <;> assumption
theorem minQ_sq {a b : Rat} (ga : SQ a) (gb : SQ b) : SQ (minQ a b) := by unfold minQ; split <;> assumption
theorem meet_spec {a b c d : Rat} (g : SP a b) (k : SP c d) (lo : Nat) (h : VHeap) : callVL vp lo n_see_meet [.agg (rv a ++ rv b), .agg (rv c ++ rv d)] h = some (.tup [.agg (rv (maxQ a c) ++ rv (minQ b d)), .bool (decide (maxQ a c ≤ minQ b d))], h) := by
  refine call_valE (fn := see_meet_v) rfl rfl rfl rfl rfl ?_ lo h
  have n1 := norm_spec g
  have n2 := norm_spec k
  have m1 := MaxQ_spec g.ga k.ga
  have m2 := MinQ_spec g.gb k.gb
  have c1 := CmpQ_spec (maxQ_sq g.ga k.ga) (minQ_sq g.gb k.gb)
  have i1 := @cmpQ_le (maxQ a c) (minQ b d)
  generalize maxQ a c = P at *
  generalize minQ b d = Q at *
  obtain ⟨b1, x1, y1, e1⟩ := rvx a
  obtain ⟨b2, x2, y2, e2⟩ := rvx b
  obtain ⟨b3, x3, y3, e3⟩ := rvx c
  obtain ⟨b4, x4, y4, e4⟩ := rvx d
  obtain ⟨b5, x5, y5, e5⟩ := rvx P
  obtain ⟨b6, x6, y6, e6⟩ := rvx Q
  rw [e1, e3, e5] at m1
  rw [e2, e4, e6] at m2
  rw [e5, e6] at c1
  rw [e1, e2] at n1
  rw [e3, e4] at n2
  rw [e1, e2, e3, e4, e5, e6]
  simp only [List.cons_append, List.nil_append] at n1 n2 ⊢
  by_cases l1 : P ≤ Q
  · have i1' := i1.2 l1
    rw [decide_eq_true l1]
    simp -implicitDefEqProofs only [go_sem, ↓reduceIte, reduceCtorEq, Int.reduceLT, Int.reduceLE, Int.reduceToNat, Nat.reduceAdd, Nat.reduceMul, Nat.reduceLeDiff, Nat.reduceLT, Nat.reduceSub, Int.reduceNeg, Int.reduceEq, Int.reduceBEq, Int.reduceBNe, Nat.reduceEqDiff, n1, n2, m1, m2, c1, i1']
  · have i1' : ¬ cmpQ P Q ≤ 0 := fun h => l1 (i1.1 h)
    rw [decide_eq_false l1]
    simp -implicitDefEqProofs only [go_sem, ↓reduceIte, reduceCtorEq, Int.reduceLT, Int.reduceLE, Int.reduceToNat, Nat.reduceAdd, Nat.reduceMul, Nat.reduceLeDiff, Nat.reduceLT, Nat.reduceSub, Int.reduceNeg, Int.reduceEq, Int.reduceBEq, Int.reduceBNe, Nat.reduceEqDiff, n1, n2, m1, m2, c1, i1']
end Vg.G3
namespace Vg.G3
open Go Lg Vg.Nm
set_option linter.unusedSimpArgs false
set_option linter.unusedVariables false
set_option maxRecDepth 10000
set_option maxHeartbeats 4000000
attribute [local congr] bind_congr1
attribute [local go_sem] see_Has_r0 see_Has_r1 see_Has_f see_Has_v see_Inside_r0 see_Inside_r1 see_Inside_f see_Inside_v see_Same_r0 see_Same_r1 see_Same_f see_Same_v see_Narrow_r0 see_Narrow_r1 see_Narrow_r2 see_Narrow_r3 see_Narrow_r4 see_Narrow_r5 see_Narrow_r6 see_Narrow_f see_Narrow_v see_Of_r0 see_Of_r1 see_Of_r2 see_Of_r3 see_Of_r3_d see_Of_f see_Of_v gantkeep4_seen_r0 gantkeep4_seen_r1 gantkeep4_seen_r2 gantkeep4_seen_r2_d gantkeep4_seen_f gantkeep4_seen_v

/-- A pose. -/
structure Po where
  x1 : Rat
  x2 : Rat
  y1 : Rat
  y2 : Rat
  t1 : Rat
  t2 : Rat
def Po.v (p : Po) : List VV := (rv p.x1 ++ rv p.x2) ++ ((rv p.y1 ++ rv p.y2) ++ (rv p.t1 ++ rv p.t2))
structure Po.ok (p : Po) : Prop where
  x : SP p.x1 p.x2
  y : SP p.y1 p.y2
  t : SP p.t1 p.t2
def frv (x y t : List VV) : List VV := (x ++ y) ++ (VV.bool false :: t)
def Po.has (p : Po) (x y t : Rat) : Bool := (decide (p.x1 ≤ x) && decide (x ≤ p.x2)) && (decide (p.y1 ≤ y) && decide (y ≤ p.y2)) && (decide (p.t1 ≤ t) && decide (t ≤ p.t2))
theorem Has_spec {p : Po} (g : p.ok) {u v w : List VV} {x y t : Rat} (gu : FQ u x) (gv : FQ v y) (gw : FQ w t) (lo : Nat) (h : VHeap) : callVL vp lo n_see_Has [.agg p.v, .agg (frv u v w)] h = some (.bool (p.has x y t), h) := by
  have k1 := spanHas_spec g.x gu
  have k2 := spanHas_spec g.y gv
  have k3 := spanHas_spec g.t gw
  obtain ⟨b1, x1, y1, rfl⟩ := gu.form
  obtain ⟨b2, x2, y2, rfl⟩ := gv.form
  obtain ⟨b3, x3, y3, rfl⟩ := gw.form
  refine call_valE (fn := see_Has_v) rfl rfl rfl rfl rfl ?_ lo h
  unfold Po.v frv Po.has
  generalize (decide (p.x1 ≤ x) && decide (x ≤ p.x2)) = B1 at *
  generalize (decide (p.y1 ≤ y) && decide (y ≤ p.y2)) = B2 at *
  generalize (decide (p.t1 ≤ t) && decide (t ≤ p.t2)) = B3 at *
  obtain ⟨p1, q1, r1, e1⟩ := rvx p.x1
  obtain ⟨p2, q2, r2, e2⟩ := rvx p.x2
  obtain ⟨p3, q3, r3, e3⟩ := rvx p.y1
  obtain ⟨p4, q4, r4, e4⟩ := rvx p.y2
  obtain ⟨p5, q5, r5, e5⟩ := rvx p.t1
  obtain ⟨p6, q6, r6, e6⟩ := rvx p.t2
  rw [e1, e2] at k1
  rw [e3, e4] at k2
  rw [e5, e6] at k3
  rw [e1, e2, e3, e4, e5, e6]
  simp only [List.cons_append, List.nil_append] at k1 k2 k3 ⊢
  cases B1 <;> cases B2 <;> cases B3 <;> simp only [Bool.and_true, Bool.and_false, Bool.true_and, Bool.false_and] <;> simp -implicitDefEqProofs only [go_sem, ↓reduceIte, reduceCtorEq, Int.reduceLT, Int.reduceLE, Int.reduceToNat, Nat.reduceAdd, Nat.reduceMul, Nat.reduceLeDiff, Nat.reduceLT, Nat.reduceSub, Int.reduceNeg, Int.reduceEq, Int.reduceBEq, Int.reduceBNe, Nat.reduceEqDiff, k1, k2, k3]
def Po.inB (p q : Po) : Bool := (decide (q.x1 ≤ p.x1) && decide (p.x2 ≤ q.x2)) && (decide (q.y1 ≤ p.y1) && decide (p.y2 ≤ q.y2)) && (decide (q.t1 ≤ p.t1) && decide (p.t2 ≤ q.t2))
theorem Inside_spec {p q : Po} (g : p.ok) (k : q.ok) (lo : Nat) (h : VHeap) : callVL vp lo n_see_Inside [.agg p.v, .agg q.v] h = some (.bool (p.inB q), h) := by
  refine call_valE (fn := see_Inside_v) rfl rfl rfl rfl rfl ?_ lo h
  have k1 := within_spec g.x k.x
  have k2 := within_spec g.y k.y
  have k3 := within_spec g.t k.t
  unfold Po.v Po.inB
  generalize (decide (q.x1 ≤ p.x1) && decide (p.x2 ≤ q.x2)) = B1 at *
  generalize (decide (q.y1 ≤ p.y1) && decide (p.y2 ≤ q.y2)) = B2 at *
  generalize (decide (q.t1 ≤ p.t1) && decide (p.t2 ≤ q.t2)) = B3 at *
  obtain ⟨p1, q1, r1, e1⟩ := rvx p.x1
  obtain ⟨p2, q2, r2, e2⟩ := rvx p.x2
  obtain ⟨p3, q3, r3, e3⟩ := rvx p.y1
  obtain ⟨p4, q4, r4, e4⟩ := rvx p.y2
  obtain ⟨p5, q5, r5, e5⟩ := rvx p.t1
  obtain ⟨p6, q6, r6, e6⟩ := rvx p.t2
  obtain ⟨p11, q11, r11, e11⟩ := rvx q.x1
  obtain ⟨p12, q12, r12, e12⟩ := rvx q.x2
  obtain ⟨p13, q13, r13, e13⟩ := rvx q.y1
  obtain ⟨p14, q14, r14, e14⟩ := rvx q.y2
  obtain ⟨p15, q15, r15, e15⟩ := rvx q.t1
  obtain ⟨p16, q16, r16, e16⟩ := rvx q.t2
  rw [e1, e2, e11, e12] at k1
  rw [e3, e4, e13, e14] at k2
  rw [e5, e6, e15, e16] at k3
  rw [e1, e2, e3, e4, e5, e6, e11, e12, e13, e14, e15, e16]
  simp only [List.cons_append, List.nil_append] at k1 k2 k3 ⊢
  cases B1 <;> cases B2 <;> cases B3 <;> simp only [Bool.and_true, Bool.and_false, Bool.true_and, Bool.false_and] <;> simp -implicitDefEqProofs only [go_sem, ↓reduceIte, reduceCtorEq, Int.reduceLT, Int.reduceLE, Int.reduceToNat, Nat.reduceAdd, Nat.reduceMul, Nat.reduceLeDiff, Nat.reduceLT, Nat.reduceSub, Int.reduceNeg, Int.reduceEq, Int.reduceBEq, Int.reduceBNe, Nat.reduceEqDiff, k1, k2, k3]
theorem Po.vx (p : Po) : ∃ b1 n1 d1 b2 n2 d2 b3 n3 d3 b4 n4 d4 b5 n5 d5 b6 n6 d6, p.v = [.bool b1, .str n1, .str d1, .bool b2, .str n2, .str d2, .bool b3, .str n3, .str d3, .bool b4, .str n4, .str d4, .bool b5, .str n5, .str d5, .bool b6, .str n6, .str d6] := ⟨_, _, _, _, _, _, _, _, _, _, _, _, _, _, _, _, _, _, rfl⟩
theorem Same_spec {p q : Po} (g : p.ok) (k : q.ok) (lo : Nat) (h : VHeap) : callVL vp lo n_see_Same [.agg p.v, .agg q.v] h = some (.bool (p.inB q && q.inB p), h) := by
  refine call_valE (fn := see_Same_v) rfl rfl rfl rfl rfl ?_ lo h
  have k1 := Inside_spec g k
  have k2 := Inside_spec k g
  generalize p.inB q = B1 at *
  generalize q.inB p = B2 at *
  obtain ⟨a1, a2, a3, a4, a5, a6, a7, a8, a9, a10, a11, a12, a13, a14, a15, a16, a17, a18, e1⟩ := p.vx
  obtain ⟨b1, b2, b3, b4, b5, b6, b7, b8, b9, b10, b11, b12, b13, b14, b15, b16, b17, b18, e2⟩ := q.vx
  rw [e1, e2] at k1 k2 ⊢
  cases B1 <;> cases B2 <;> simp only [Bool.and_true, Bool.and_false, Bool.true_and, Bool.false_and] <;> simp -implicitDefEqProofs only [go_sem, ↓reduceIte, reduceCtorEq, Int.reduceLT, Int.reduceLE, Int.reduceToNat, Nat.reduceAdd, Nat.reduceMul, Nat.reduceLeDiff, Nat.reduceLT, Nat.reduceSub, Int.reduceNeg, Int.reduceEq, Int.reduceBEq, Int.reduceBNe, Nat.reduceEqDiff, k1, k2]
def Po.meet (p q : Po) : Po := ⟨maxQ p.x1 q.x1, minQ p.x2 q.x2, maxQ p.y1 q.y1, minQ p.y2 q.y2, maxQ p.t1 q.t1, minQ p.t2 q.t2⟩
def Po.nz : List VV := rz ++ (rz ++ (rz ++ (rz ++ (rz ++ rz))))
def Po.meets (p q : Po) : Bool := decide (maxQ p.x1 q.x1 ≤ minQ p.x2 q.x2) && decide (maxQ p.y1 q.y1 ≤ minQ p.y2 q.y2) && decide (maxQ p.t1 q.t1 ≤ minQ p.t2 q.t2)
theorem Narrow_spec {p q : Po} (g : p.ok) (k : q.ok) (lo : Nat) (h : VHeap) : callVL vp lo n_see_Narrow [.agg p.v, .agg q.v] h = some (.tup [.agg (if p.meets q then (p.meet q).v else Po.nz), .int .i64 (if p.meets q then 0 else 4)], h) := by
  refine call_valE (fn := see_Narrow_v) rfl rfl rfl rfl rfl ?_ lo h
  have k1 := meet_spec g.x k.x
  have k2 := meet_spec g.y k.y
  have k3 := meet_spec g.t k.t
  unfold Po.v Po.meets Po.meet Po.nz rz
  generalize decide (maxQ p.x1 q.x1 ≤ minQ p.x2 q.x2) = B1 at *
  generalize decide (maxQ p.y1 q.y1 ≤ minQ p.y2 q.y2) = B2 at *
  generalize decide (maxQ p.t1 q.t1 ≤ minQ p.t2 q.t2) = B3 at *
  obtain ⟨c1, c2, c3, e21⟩ := rvx (maxQ p.x1 q.x1)
  obtain ⟨d1, d2, d3, e22⟩ := rvx (minQ p.x2 q.x2)
  obtain ⟨c4, c5, c6, e23⟩ := rvx (maxQ p.y1 q.y1)
  obtain ⟨d4, d5, d6, e24⟩ := rvx (minQ p.y2 q.y2)
  obtain ⟨c7, c8, c9, e25⟩ := rvx (maxQ p.t1 q.t1)
  obtain ⟨d7, d8, d9, e26⟩ := rvx (minQ p.t2 q.t2)
  obtain ⟨p1, q1, r1, e1⟩ := rvx p.x1
  obtain ⟨p2, q2, r2, e2⟩ := rvx p.x2
  obtain ⟨p3, q3, r3, e3⟩ := rvx p.y1
  obtain ⟨p4, q4, r4, e4⟩ := rvx p.y2
  obtain ⟨p5, q5, r5, e5⟩ := rvx p.t1
  obtain ⟨p6, q6, r6, e6⟩ := rvx p.t2
  obtain ⟨p11, q11, r11, e11⟩ := rvx q.x1
  obtain ⟨p12, q12, r12, e12⟩ := rvx q.x2
  obtain ⟨p13, q13, r13, e13⟩ := rvx q.y1
  obtain ⟨p14, q14, r14, e14⟩ := rvx q.y2
  obtain ⟨p15, q15, r15, e15⟩ := rvx q.t1
  obtain ⟨p16, q16, r16, e16⟩ := rvx q.t2
  rw [e1, e2, e11, e12, e21, e22] at k1
  rw [e3, e4, e13, e14, e23, e24] at k2
  rw [e5, e6, e15, e16, e25, e26] at k3
  simp only [e1, e2, e3, e4, e5, e6, e11, e12, e13, e14, e15, e16, e21, e22, e23, e24, e25, e26, List.cons_append, List.nil_append] at k1 k2 k3 ⊢
  clear e1 e2 e3 e4 e5 e6 e11 e12 e13 e14 e15 e16 e21 e22 e23 e24 e25 e26
  cases B1 <;> cases B2 <;> cases B3 <;> simp only [Bool.and_true, Bool.and_false, Bool.true_and, Bool.false_and, if_true, if_false, Bool.false_eq_true] <;> simp -implicitDefEqProofs only [go_sem, ↓reduceIte, reduceCtorEq, Int.reduceLT, Int.reduceLE, Int.reduceToNat, Nat.reduceAdd, Nat.reduceMul, Nat.reduceLeDiff, Nat.reduceLT, Nat.reduceSub, Int.reduceNeg, Int.reduceEq, Int.reduceBEq, Int.reduceBNe, Nat.reduceEqDiff, k1, k2, k3]
theorem seeOf_spec {u v w : List VV} {x y t : Rat} (gu : FQ u x) (gv : FQ v y) (gw : FQ w t) (lo : Nat) (h : VHeap) : callVL vp lo n_see_Of [.agg (frv u v w)] h = some (.tup [.agg (Po.mk x x y y t t).v, .int .i64 0], h) := by
  have k1 := spanOf_spec gu
  have k2 := spanOf_spec gv
  have k3 := spanOf_spec gw
  obtain ⟨b1, x1, y1, rfl⟩ := gu.form
  obtain ⟨b2, x2, y2, rfl⟩ := gv.form
  obtain ⟨b3, x3, y3, rfl⟩ := gw.form
  refine call_valE (fn := see_Of_v) rfl rfl rfl rfl rfl ?_ lo h
  unfold Po.v frv
  obtain ⟨p1, q1, r1, e1⟩ := rvx x
  obtain ⟨p2, q2, r2, e2⟩ := rvx y
  obtain ⟨p3, q3, r3, e3⟩ := rvx t
  simp only [e1, e2, e3, List.cons_append, List.nil_append] at k1 k2 k3 ⊢
  simp -implicitDefEqProofs only [go_sem, ↓reduceIte, reduceCtorEq, Int.reduceLT, Int.reduceLE, Int.reduceToNat, Nat.reduceAdd, Nat.reduceMul, Nat.reduceLeDiff, Nat.reduceLT, Nat.reduceSub, Int.reduceNeg, Int.reduceEq, Int.reduceBEq, Int.reduceBNe, Nat.reduceEqDiff, k1, k2, k3]
theorem SQ.nat {n : Nat} (h : n < 268435456) : SQ (n : Rat) := ⟨by rw [Rat.num_natCast]; exact h, by rw [Rat.den_natCast]; decide⟩
theorem SP.self {a : Rat} (g : SQ a) : SP a a := ⟨g, g, Rat.le_refl⟩
theorem seen_spec (lo : Nat) (h : VHeap) : callVL vp lo n_gantkeep4_seen [] h = some (.bool true, h) := by
  refine call_valE (fn := gantkeep4_seen_v) rfl rfl rfl rfl rfl ?_ lo h
  have g2 : SQ ((2 : Nat) : Rat) := SQ.nat (by decide)
  have o2 := OfQ_spec (n := 2) (by decide)
  rw [show ((2 : Nat) : Int) = 2 from rfl] at o2
  have pk : (Po.mk ((2 : Nat) : Rat) ((2 : Nat) : Rat) 0 0 0 0).ok := ⟨SP.self g2, SP.self SQ.zero, SP.self SQ.zero⟩
  have k1 := seeOf_spec g2.fq rz_fq rz_fq
  have k2 := Has_spec pk g2.fq rz_fq rz_fq
  have k3 := Has_spec pk rz_fq rz_fq rz_fq
  have b2 : (Po.mk ((2 : Nat) : Rat) ((2 : Nat) : Rat) 0 0 0 0).has ((2 : Nat) : Rat) 0 0 = true := by decide
  have b3 : (Po.mk ((2 : Nat) : Rat) ((2 : Nat) : Rat) 0 0 0 0).has 0 0 0 = false := by decide
  rw [b2] at k2
  rw [b3] at k3
  obtain ⟨p1, q1, r1, e1⟩ := rvx ((2 : Nat) : Rat)
  obtain ⟨a1, a2, a3, a4, a5, a6, a7, a8, a9, a10, a11, a12, a13, a14, a15, a16, a17, a18, e2⟩ := (Po.mk ((2 : Nat) : Rat) ((2 : Nat) : Rat) 0 0 0 0).vx
  unfold frv rz at *
  simp only [e1, e2, List.cons_append, List.nil_append] at k1 k2 k3 o2
  simp -implicitDefEqProofs only [go_sem, ↓reduceIte, reduceCtorEq, Int.reduceLT, Int.reduceLE, Int.reduceToNat, Nat.reduceAdd, Nat.reduceMul, Nat.reduceLeDiff, Nat.reduceLT, Nat.reduceSub, Int.reduceNeg, Int.reduceEq, Int.reduceBEq, Int.reduceBNe, Nat.reduceEqDiff, o2, k1, k2, k3]
end Vg.G3
