import Derived.Test.YtpclbojoknhnlaaDoorVRB
namespace Vg.G3
open Go Lg Vg.Nm
set_option linter.unusedSimpArgs false
set_option linter.unusedVariables false
set_option maxRecDepth 10000
set_option maxHeartbeats 4000000
attribute [local congr] bind_congr1
attribute [local go_sem] span_Add_r0 span_Add_r1 span_Add_r1_d span_Add_r2 span_Add_r2_d span_Add_f span_Add_v span_Sub_r0 span_Sub_r1 span_Sub_r1_d span_Sub_r2 span_Sub_r2_d span_Sub_f span_Sub_v span_Join_r0 span_Join_r1 span_Join_r1_d span_Join_r2 span_Join_r2_d span_Join_f span_Join_v span_around_r0 span_around_r1 span_around_r2 span_around_r3 span_around_r4 span_around_r5 span_around_r5_d span_around_r6 span_around_r7 span_around_f span_around_v span_Mul_r0 span_Mul_r1 span_Mul_r1_d span_Mul_r2 span_Mul_r2_d span_Mul_f span_Mul_v

theorem spanAdd_spec {a b c d : Rat} (g : SP a b) (k : SP c d) (lo : Nat) (h : VHeap) : callVL vp lo n_span_Add [.agg (rv a ++ rv b), .agg (rv c ++ rv d)] h = some (.agg (rv (a + c) ++ rv (b + d)), h) := by
  refine call_valE (fn := span_Add_v) rfl rfl rfl rfl rfl ?_ lo h
  have f1 := spanfit_spec g
  have f2 := spanfit_spec k
  have s1 := AddQ_spec g.ga k.ga
  have s2 := AddQ_spec g.gb k.gb
  obtain ⟨p1, q1, r1, e1⟩ := rvx a
  obtain ⟨p2, q2, r2, e2⟩ := rvx b
  obtain ⟨p3, q3, r3, e3⟩ := rvx c
  obtain ⟨p4, q4, r4, e4⟩ := rvx d
  obtain ⟨p5, q5, r5, e5⟩ := rvx (a + c)
  obtain ⟨p6, q6, r6, e6⟩ := rvx (b + d)
  simp only [e1, e2, e3, e4, e5, e6, List.cons_append, List.nil_append] at f1 f2 s1 s2 ⊢
  clear e1 e2 e3 e4 e5 e6
  simp -implicitDefEqProofs only [go_sem, ↓reduceIte, reduceCtorEq, Int.reduceLT, Int.reduceLE, Int.reduceToNat, Nat.reduceAdd, Nat.reduceMul, Nat.reduceLeDiff, Nat.reduceLT, Nat.reduceSub, Int.reduceNeg, Int.reduceEq, Int.reduceBEq, Int.reduceBNe, Nat.reduceEqDiff, f1, f2, s1, s2]
theorem spanSub_spec {a b c d : Rat} (g : SP a b) (k : SP c d) (lo : Nat) (h : VHeap) : callVL vp lo n_span_Sub [.agg (rv a ++ rv b), .agg (rv c ++ rv d)] h = some (.agg (rv (a - d) ++ rv (b - c)), h) := by
  refine call_valE (fn := span_Sub_v) rfl rfl rfl rfl rfl ?_ lo h
  have f1 := spanfit_spec g
  have f2 := spanfit_spec k
  have s1 := SubQ_spec g.ga k.gb
  have s2 := SubQ_spec g.gb k.ga
  obtain ⟨p1, q1, r1, e1⟩ := rvx a
  obtain ⟨p2, q2, r2, e2⟩ := rvx b
  obtain ⟨p3, q3, r3, e3⟩ := rvx c
  obtain ⟨p4, q4, r4, e4⟩ := rvx d
  obtain ⟨p5, q5, r5, e5⟩ := rvx (a - d)
  obtain ⟨p6, q6, r6, e6⟩ := rvx (b - c)
  simp only [e1, e2, e3, e4, e5, e6, List.cons_append, List.nil_append] at f1 f2 s1 s2 ⊢
  clear e1 e2 e3 e4 e5 e6
  simp -implicitDefEqProofs only [go_sem, ↓reduceIte, reduceCtorEq, Int.reduceLT, Int.reduceLE, Int.reduceToNat, Nat.reduceAdd, Nat.reduceMul, Nat.reduceLeDiff, Nat.reduceLT, Nat.reduceSub, Int.reduceNeg, Int.reduceEq, Int.reduceBEq, Int.reduceBNe, Nat.reduceEqDiff, f1, f2, s1, s2]
theorem spanJoin_spec {a b c d : Rat} (g : SP a b) (k : SP c d) (lo : Nat) (h : VHeap) : callVL vp lo n_span_Join [.agg (rv a ++ rv b), .agg (rv c ++ rv d)] h = some (.agg (rv (minQ a c) ++ rv (maxQ b d)), h) := by
  refine call_valE (fn := span_Join_v) rfl rfl rfl rfl rfl ?_ lo h
  have f1 := spanfit_spec g
  have f2 := spanfit_spec k
  have s1 := MinQ_spec g.ga k.ga
  have s2 := MaxQ_spec g.gb k.gb
  obtain ⟨p1, q1, r1, e1⟩ := rvx a
  obtain ⟨p2, q2, r2, e2⟩ := rvx b
  obtain ⟨p3, q3, r3, e3⟩ := rvx c
  obtain ⟨p4, q4, r4, e4⟩ := rvx d
  obtain ⟨p5, q5, r5, e5⟩ := rvx (minQ a c)
  obtain ⟨p6, q6, r6, e6⟩ := rvx (maxQ b d)
  simp only [e1, e2, e3, e4, e5, e6, List.cons_append, List.nil_append] at f1 f2 s1 s2 ⊢
  clear e1 e2 e3 e4 e5 e6
  simp -implicitDefEqProofs only [go_sem, ↓reduceIte, reduceCtorEq, Int.reduceLT, Int.reduceLE, Int.reduceToNat, Nat.reduceAdd, Nat.reduceMul, Nat.reduceLeDiff, Nat.reduceLT, Nat.reduceSub, Int.reduceNeg, Int.reduceEq, Int.reduceBEq, Int.reduceBNe, Nat.reduceEqDiff, f1, f2, s1, s2]
theorem around2_spec {a b : Rat} (ga : SQ a) (gb : SQ b) (lo : Nat) (h : VHeap) : callVL vp lo n_span_around [.list .s [rv a, rv b]] h = some (.agg (rv (minQ a b) ++ rv (maxQ a b)), h) := by
  refine call_valE (fn := span_around_v) rfl rfl rfl rfl rfl ?_ lo h
  have o := spanOf_spec ga.fq
  have s1 := MinQ_spec ga gb
  have s2 := MaxQ_spec ga gb
  have w0 : IntKind.i64.wrap (0 + 1) = 1 := by decide
  obtain ⟨p1, q1, r1, e1⟩ := rvx a
  obtain ⟨p2, q2, r2, e2⟩ := rvx b
  obtain ⟨p5, q5, r5, e5⟩ := rvx (minQ a b)
  obtain ⟨p6, q6, r6, e6⟩ := rvx (maxQ a b)
  simp only [e1, e2, e5, e6, List.cons_append, List.nil_append] at o s1 s2 ⊢
  clear e1 e2 e5 e6
  simp -implicitDefEqProofs only [span_around_b0, go_sem, ↓reduceIte, reduceCtorEq, Int.reduceLT, Int.reduceLE, Int.reduceToNat, Nat.reduceAdd, Nat.reduceMul, Nat.reduceLeDiff, Nat.reduceLT, Nat.reduceSub, Int.reduceNeg, Int.reduceEq, Int.reduceBEq, Int.reduceBNe, Nat.reduceEqDiff, loopV_eq, ↓thenV_norm, ↓thenV_exit, ↓thenV_ret, o, s1, s2, w0, Int.lt_irrefl]
theorem around4_spec {a b c d : Rat} (ga : SQ a) (gb : SQ b) (gc : SQ c) (gd : SQ d) (lo : Nat) (h : VHeap) : callVL vp lo n_span_around [.list .s [rv a, rv b, rv c, rv d]] h = some (.agg (rv (minQ (minQ (minQ a b) c) d) ++ rv (maxQ (maxQ (maxQ a b) c) d)), h) := by
  refine call_valE (fn := span_around_v) rfl rfl rfl rfl rfl ?_ lo h
  have o := spanOf_spec ga.fq
  have s1 := MinQ_spec ga gb
  have s2 := MaxQ_spec ga gb
  have s3 := MinQ_spec (minQ_sq ga gb) gc
  have s4 := MaxQ_spec (maxQ_sq ga gb) gc
  have s5 := MinQ_spec (minQ_sq (minQ_sq ga gb) gc) gd
  have s6 := MaxQ_spec (maxQ_sq (maxQ_sq ga gb) gc) gd
  have w0 : IntKind.i64.wrap (0 + 1) = 1 := by decide
  have w1 : IntKind.i64.wrap (1 + 1) = 2 := by decide
  have w2 : IntKind.i64.wrap (2 + 1) = 3 := by decide
  generalize minQ (minQ (minQ a b) c) d = M3 at *
  generalize maxQ (maxQ (maxQ a b) c) d = N3 at *
  generalize minQ (minQ a b) c = M2 at *
  generalize maxQ (maxQ a b) c = N2 at *
  generalize minQ a b = M1 at *
  generalize maxQ a b = N1 at *
  obtain ⟨p1, q1, r1, e1⟩ := rvx a
  obtain ⟨p2, q2, r2, e2⟩ := rvx b
  obtain ⟨p3, q3, r3, e3⟩ := rvx c
  obtain ⟨p4, q4, r4, e4⟩ := rvx d
  obtain ⟨p5, q5, r5, e5⟩ := rvx M1
  obtain ⟨p6, q6, r6, e6⟩ := rvx N1
  obtain ⟨p7, q7, r7, e7⟩ := rvx M2
  obtain ⟨p8, q8, r8, e8⟩ := rvx N2
  obtain ⟨p9, q9, r9, e9⟩ := rvx M3
  obtain ⟨p10, q10, r10, e10⟩ := rvx N3
  simp only [e1, e2, e3, e4, e5, e6, e7, e8, e9, e10, List.cons_append, List.nil_append] at o s1 s2 s3 s4 s5 s6 ⊢
  clear e1 e2 e3 e4 e5 e6 e7 e8 e9 e10
  simp -implicitDefEqProofs only [span_around_b0, go_sem, ↓reduceIte, reduceCtorEq, Int.reduceLT, Int.reduceLE, Int.reduceToNat, Nat.reduceAdd, Nat.reduceMul, Nat.reduceLeDiff, Nat.reduceLT, Nat.reduceSub, Int.reduceNeg, Int.reduceEq, Int.reduceBEq, Int.reduceBNe, Nat.reduceEqDiff, loopV_eq, ↓thenV_norm, ↓thenV_exit, ↓thenV_ret, o, s1, s2, s3, s4, s5, s6, w0, w1, w2, Int.lt_irrefl]
def mul1 (a b c d : Rat) : Rat := minQ (minQ (minQ (a * c) (a * d)) (b * c)) (b * d)
def mul2 (a b c d : Rat) : Rat := maxQ (maxQ (maxQ (a * c) (a * d)) (b * c)) (b * d)
theorem spanMul_spec {a b c d : Rat} (g : SP a b) (k : SP c d) (h1 : SQ (a * c)) (h2 : SQ (a * d)) (h3 : SQ (b * c)) (h4 : SQ (b * d)) (lo : Nat) (h : VHeap) : callVL vp lo n_span_Mul [.agg (rv a ++ rv b), .agg (rv c ++ rv d)] h = some (.agg (rv (mul1 a b c d) ++ rv (mul2 a b c d)), h) := by
  refine call_valE (fn := span_Mul_v) rfl rfl rfl rfl rfl ?_ lo h
  have f1 := spanfit_spec g
  have f2 := spanfit_spec k
  have s1 := MulQ_spec g.ga k.ga
  have s2 := MulQ_spec g.ga k.gb
  have s3 := MulQ_spec g.gb k.ga
  have s4 := MulQ_spec g.gb k.gb
  have ar := around4_spec h1 h2 h3 h4
  rw [show minQ (minQ (minQ (a * c) (a * d)) (b * c)) (b * d) = mul1 a b c d from rfl, show maxQ (maxQ (maxQ (a * c) (a * d)) (b * c)) (b * d) = mul2 a b c d from rfl] at ar
  generalize mul1 a b c d = M at *
  generalize mul2 a b c d = N at *
  obtain ⟨p1, q1, r1, e1⟩ := rvx a
  obtain ⟨p2, q2, r2, e2⟩ := rvx b
  obtain ⟨p3, q3, r3, e3⟩ := rvx c
  obtain ⟨p4, q4, r4, e4⟩ := rvx d
  obtain ⟨p5, q5, r5, e5⟩ := rvx (a * c)
  obtain ⟨p6, q6, r6, e6⟩ := rvx (a * d)
  obtain ⟨p7, q7, r7, e7⟩ := rvx (b * c)
  obtain ⟨p8, q8, r8, e8⟩ := rvx (b * d)
  obtain ⟨p9, q9, r9, e9⟩ := rvx M
  obtain ⟨p10, q10, r10, e10⟩ := rvx N
  simp only [e1, e2, e3, e4, e5, e6, e7, e8, e9, e10, List.cons_append, List.nil_append] at f1 f2 s1 s2 s3 s4 ar ⊢
  clear e1 e2 e3 e4 e5 e6 e7 e8 e9 e10
  simp -implicitDefEqProofs only [go_sem, ↓reduceIte, reduceCtorEq, Int.reduceLT, Int.reduceLE, Int.reduceToNat, Nat.reduceAdd, Nat.reduceMul, Nat.reduceLeDiff, Nat.reduceLT, Nat.reduceSub, Int.reduceNeg, Int.reduceEq, Int.reduceBEq, Int.reduceBNe, Nat.reduceEqDiff, f1, f2, s1, s2, s3, s4, ar]
end Vg.G3
namespace Vg.G3
open Go Lg Vg.Nm
set_option linter.unusedSimpArgs false
set_option linter.unusedVariables false
set_option maxRecDepth 10000
set_option maxHeartbeats 4000000
attribute [local congr] bind_congr1
attribute [local go_sem] rat_Of_r0 rat_Of_r1 rat_Of_r2 rat_Of_r3 rat_Of_f rat_Of_v turn_Of_r0 turn_Of_r1 turn_Of_f turn_Of_v turn_fit_r0 turn_fit_r1 turn_fit_r2 turn_fit_r3 turn_fit_f turn_fit_v turn_Cos_r0 turn_Cos_r1 turn_Cos_r2 turn_Cos_r3 turn_Cos_r4 turn_Cos_r5 turn_Cos_r5_d turn_Cos_r6 turn_Cos_f turn_Cos_v turn_Sin_r0 turn_Sin_r1 turn_Sin_r2 turn_Sin_r2_d turn_Sin_r3 turn_Sin_f turn_Sin_v turn_CosSpan_1_r0 turn_CosSpan_1_r1 turn_CosSpan_1_r1_d turn_CosSpan_1_r2 turn_CosSpan_1_f turn_CosSpan_1_v span_Sq_r0 span_Sq_r1 span_Sq_r2 span_Sq_r2_d span_Sq_r3 span_Sq_r3_d span_Sq_r4 span_Sq_r5 span_Sq_f span_Sq_v turn_CosSpan_r0 turn_CosSpan_r1 turn_CosSpan_r2 turn_CosSpan_r3 turn_CosSpan_r3_d turn_CosSpan_f turn_CosSpan_v

theorem num_ne {q : Rat} (h : 0 < q) : q.num ≠ 0 := fun h0 => by
  have e : q = 0 := Rat.ext h0 (by have := q.reduced; rw [h0] at this; simpa [Nat.Coprime] using this)
  rw [e] at h; exact absurd h (by decide)
theorem Of1Q_spec (lo : Nat) (h : VHeap) : callVL vp lo n_rat_Of [.int .i64 1] h = some (.agg (rv 1), h) := OfQ_spec (n := 1) (by decide) lo h
theorem Of0Q_spec (lo : Nat) (h : VHeap) : callVL vp lo n_rat_Of [.int .i64 0] h = some (.agg (rv 0), h) := OfQ_spec (n := 0) (by decide) lo h
theorem OfmQ_spec (lo : Nat) (h : VHeap) : callVL vp lo n_rat_Of [.int .i64 (-1)] h = some (.agg (rv (-1)), h) := by
  refine call_valE (fn := rat_Of_v) rfl rfl rfl rfl rfl ?_ lo h
  have h1 := natOf_spec 0 (by decide)
  have h2 := AddS_spec 0 1 (by decide) (by decide)
  have hM := made_spec true 1 1 (by decide) (by decide) (by decide)
  have e : mkRat (sgn true 1) 1 = (-1 : Rat) := by decide
  rw [e, enc_one] at hM
  rw [show ((0 : Nat) : Int) = 0 from rfl] at h1
  rw [enc_one] at h2
  have w1 : IntKind.i64.wrap (-1 + 1) = 0 := by decide
  have w2 : IntKind.i64.wrap (0 - 0) = 0 := by decide
  obtain ⟨b1, x1, y1, e1⟩ := rvx (-1 : Rat)
  rw [e1] at hM ⊢
  generalize encB 0 = Z at *
  simp -implicitDefEqProofs only [go_sem, ↓reduceIte, reduceCtorEq, Int.reduceLT, Int.reduceLE, Int.reduceToNat, Nat.reduceAdd, Nat.reduceMul, Nat.reduceLeDiff, Nat.reduceLT, Nat.reduceSub, Int.reduceNeg, Int.reduceEq, Int.reduceBEq, Int.reduceBNe, Nat.reduceEqDiff, w1, w2, h1, h2, hM]
theorem SQ.one : SQ 1 := ⟨by decide, by decide⟩
theorem SQ.mone : SQ (-1) := ⟨by decide, by decide⟩
def cosF (a : Rat) : Rat := (1 - a) / (1 + a)
def sinF (t : Rat) : Rat := (t + t) / (1 + t * t)
theorem turnOf_spec {u : List VV} {p : Rat} (gu : FQ u p) (lo : Nat) (h : VHeap) : callVL vp lo n_turn_Of [.agg u] h = some (.agg (.bool false :: rv p), h) := by
  obtain ⟨b3, x3, y3, rfl⟩ := gu.form
  refine call_valE (fn := turn_Of_v) rfl rfl rfl rfl rfl ?_ lo h
  have m := MinF_spec gu gu
  rw [minQ_self] at m
  obtain ⟨b1, x1, y1, e1⟩ := rvx p
  rw [e1] at m ⊢
  simp -implicitDefEqProofs only [go_sem, ↓reduceIte, reduceCtorEq, Int.reduceLT, Int.reduceLE, Int.reduceToNat, Nat.reduceAdd, Nat.reduceMul, Nat.reduceLeDiff, Nat.reduceLT, Nat.reduceSub, Int.reduceNeg, Int.reduceEq, Int.reduceBEq, Int.reduceBNe, Nat.reduceEqDiff, m]
theorem turnfit_spec {t : Rat} (g : SQ t) (lo : Nat) (h : VHeap) : callVL vp lo n_turn_fit [.agg (.bool false :: rv t)] h = some (.agg (.bool false :: rv t), h) := by
  refine call_valE (fn := turn_fit_v) rfl rfl rfl rfl rfl ?_ lo h
  have m := turnOf_spec g.fq
  obtain ⟨b1, x1, y1, e1⟩ := rvx t
  rw [e1] at m ⊢
  simp -implicitDefEqProofs only [go_sem, ↓reduceIte, reduceCtorEq, Int.reduceLT, Int.reduceLE, Int.reduceToNat, Nat.reduceAdd, Nat.reduceMul, Nat.reduceLeDiff, Nat.reduceLT, Nat.reduceSub, Int.reduceNeg, Int.reduceEq, Int.reduceBEq, Int.reduceBNe, Nat.reduceEqDiff, m]
/-- Numbers that the sine and the cosine compute with. -/
structure TQ (t : Rat) : Prop where
  g0 : SQ t
  tt : SQ (t * t)
  s : SQ (1 - t * t)
  a : SQ (1 + t * t)
  d : SQ (t + t)
theorem sq_nonneg (t : Rat) : 0 ≤ t * t := by
  rcases (Rat.le_total : (0 : Rat) ≤ t ∨ t ≤ 0) with h | h
  · exact Rat.mul_nonneg h h
  · have := Rat.mul_nonneg (show 0 ≤ -t by grind) (show 0 ≤ -t by grind)
    grind
theorem one_pos (t : Rat) : 0 < 1 + t * t := by have := sq_nonneg t; grind
theorem Cos_spec {t : Rat} (g : TQ t) (lo : Nat) (h : VHeap) : callVL vp lo n_turn_Cos [.agg (.bool false :: rv t)] h = some (.agg (rv (cosF (t * t))), h) := by
  refine call_valE (fn := turn_Cos_v) rfl rfl rfl rfl rfl ?_ lo h
  have f := turnfit_spec g.g0
  have m := MulQ_spec g.g0 g.g0
  have o := Of1Q_spec
  have s := SubQ_spec SQ.one g.tt
  have a := AddQ_spec SQ.one g.tt
  have d := DivQ_spec g.s g.a (num_ne (one_pos t))
  rw [show (1 - t * t) / (1 + t * t) = cosF (t * t) from rfl] at d
  obtain ⟨p1, q1, r1, e1⟩ := rvx t
  obtain ⟨p2, q2, r2, e2⟩ := rvx (t * t)
  obtain ⟨p3, q3, r3, e3⟩ := rvx 1
  obtain ⟨p4, q4, r4, e4⟩ := rvx (1 - t * t)
  obtain ⟨p5, q5, r5, e5⟩ := rvx (1 + t * t)
  obtain ⟨p6, q6, r6, e6⟩ := rvx (cosF (t * t))
  simp only [e1, e2, e3, e4, e5, e6] at f m o s a d ⊢
  clear e1 e2 e3 e4 e5 e6
  simp -implicitDefEqProofs only [go_sem, ↓reduceIte, reduceCtorEq, Int.reduceLT, Int.reduceLE, Int.reduceToNat, Nat.reduceAdd, Nat.reduceMul, Nat.reduceLeDiff, Nat.reduceLT, Nat.reduceSub, Int.reduceNeg, Int.reduceEq, Int.reduceBEq, Int.reduceBNe, Nat.reduceEqDiff, f, m, o, s, a, d]
theorem Sin_spec {t : Rat} (g : TQ t) (lo : Nat) (h : VHeap) : callVL vp lo n_turn_Sin [.agg (.bool false :: rv t)] h = some (.agg (rv (sinF t)), h) := by
  refine call_valE (fn := turn_Sin_v) rfl rfl rfl rfl rfl ?_ lo h
  have f := turnfit_spec g.g0
  have m := MulQ_spec g.g0 g.g0
  have o := Of1Q_spec
  have s := AddQ_spec g.g0 g.g0
  have a := AddQ_spec SQ.one g.tt
  have d := DivQ_spec g.d g.a (num_ne (one_pos t))
  rw [show (t + t) / (1 + t * t) = sinF t from rfl] at d
  obtain ⟨p1, q1, r1, e1⟩ := rvx t
  obtain ⟨p2, q2, r2, e2⟩ := rvx (t * t)
  obtain ⟨p3, q3, r3, e3⟩ := rvx 1
  obtain ⟨p4, q4, r4, e4⟩ := rvx (t + t)
  obtain ⟨p5, q5, r5, e5⟩ := rvx (1 + t * t)
  obtain ⟨p6, q6, r6, e6⟩ := rvx (sinF t)
  simp only [e1, e2, e3, e4, e5, e6] at f m o s a d ⊢
  clear e1 e2 e3 e4 e5 e6
  simp -implicitDefEqProofs only [go_sem, ↓reduceIte, reduceCtorEq, Int.reduceLT, Int.reduceLE, Int.reduceToNat, Nat.reduceAdd, Nat.reduceMul, Nat.reduceLeDiff, Nat.reduceLT, Nat.reduceSub, Int.reduceNeg, Int.reduceEq, Int.reduceBEq, Int.reduceBNe, Nat.reduceEqDiff, f, m, o, s, a, d]
theorem cosC_spec {a : Rat} (g : SQ a) (h0 : 0 ≤ a) (gs : SQ (1 - a)) (ga : SQ (1 + a)) (lo : Nat) (h : VHeap) : callVL vp lo n_turn_CosSpan_1 [.agg (rv a)] h = some (.agg (rv (cosF a)), h) := by
  refine call_valE (fn := turn_CosSpan_1_v) rfl rfl rfl rfl rfl ?_ lo h
  have o := Of1Q_spec
  have s := SubQ_spec SQ.one g
  have a' := AddQ_spec SQ.one g
  have d := DivQ_spec gs ga (num_ne (by grind))
  rw [show (1 - a) / (1 + a) = cosF a from rfl] at d
  obtain ⟨p2, q2, r2, e2⟩ := rvx a
  obtain ⟨p3, q3, r3, e3⟩ := rvx 1
  obtain ⟨p4, q4, r4, e4⟩ := rvx (1 - a)
  obtain ⟨p5, q5, r5, e5⟩ := rvx (1 + a)
  obtain ⟨p6, q6, r6, e6⟩ := rvx (cosF a)
  simp only [e2, e3, e4, e5, e6] at o s a' d ⊢
  clear e2 e3 e4 e5 e6
  simp -implicitDefEqProofs only [go_sem, ↓reduceIte, reduceCtorEq, Int.reduceLT, Int.reduceLE, Int.reduceToNat, Nat.reduceAdd, Nat.reduceMul, Nat.reduceLeDiff, Nat.reduceLT, Nat.reduceSub, Int.reduceNeg, Int.reduceEq, Int.reduceBEq, Int.reduceBNe, Nat.reduceEqDiff, o, s, a', d]
def sq1 (a b : Rat) : Rat := if a ≤ 0 ∧ 0 ≤ b then 0 else minQ (a * a) (b * b)
def sq2 (a b : Rat) : Rat := maxQ (a * a) (b * b)
theorem Sq_spec {a b : Rat} (g : SP a b) (h1 : SQ (a * a)) (h2 : SQ (b * b)) (lo : Nat) (h : VHeap) : callVL vp lo n_span_Sq [.agg (rv a ++ rv b)] h = some (.agg (rv (sq1 a b) ++ rv (sq2 a b)), h) := by
  refine call_valE (fn := span_Sq_v) rfl rfl rfl rfl rfl ?_ lo h
  have f := spanfit_spec g
  have m1 := MulQ_spec g.ga g.ga
  have m2 := MulQ_spec g.gb g.gb
  have ar := around2_spec h1 h2
  have o := Of0Q_spec
  have hh := spanHas_spec g SQ.zero.fq
  unfold sq1 sq2
  generalize minQ (a * a) (b * b) = M at *
  generalize maxQ (a * a) (b * b) = N at *
  by_cases hc : a ≤ 0 ∧ 0 ≤ b
  · rw [if_pos hc]
    rw [decide_eq_true hc.1, decide_eq_true hc.2] at hh
    obtain ⟨p1, q1, r1, e1⟩ := rvx a
    obtain ⟨p2, q2, r2, e2⟩ := rvx b
    obtain ⟨p3, q3, r3, e3⟩ := rvx (a * a)
    obtain ⟨p4, q4, r4, e4⟩ := rvx (b * b)
    obtain ⟨p5, q5, r5, e5⟩ := rvx M
    obtain ⟨p6, q6, r6, e6⟩ := rvx N
    obtain ⟨p7, q7, r7, e7⟩ := rvx 0
    simp only [e1, e2, e3, e4, e5, e6, e7, List.cons_append, List.nil_append, Bool.and_self] at f m1 m2 ar o hh ⊢
    clear e1 e2 e3 e4 e5 e6 e7
    simp -implicitDefEqProofs only [go_sem, ↓reduceIte, reduceCtorEq, Int.reduceLT, Int.reduceLE, Int.reduceToNat, Nat.reduceAdd, Nat.reduceMul, Nat.reduceLeDiff, Nat.reduceLT, Nat.reduceSub, Int.reduceNeg, Int.reduceEq, Int.reduceBEq, Int.reduceBNe, Nat.reduceEqDiff, f, m1, m2, ar, o, hh]
  · rw [if_neg hc]
    have : (decide (a ≤ 0) && decide (0 ≤ b)) = false := by
      rw [← Bool.decide_and]; exact decide_eq_false hc
    rw [this] at hh
    obtain ⟨p1, q1, r1, e1⟩ := rvx a
    obtain ⟨p2, q2, r2, e2⟩ := rvx b
    obtain ⟨p3, q3, r3, e3⟩ := rvx (a * a)
    obtain ⟨p4, q4, r4, e4⟩ := rvx (b * b)
    obtain ⟨p5, q5, r5, e5⟩ := rvx M
    obtain ⟨p6, q6, r6, e6⟩ := rvx N
    obtain ⟨p7, q7, r7, e7⟩ := rvx 0
    simp only [e1, e2, e3, e4, e5, e6, e7, List.cons_append, List.nil_append] at f m1 m2 ar o hh ⊢
    clear e1 e2 e3 e4 e5 e6 e7
    simp -implicitDefEqProofs only [go_sem, ↓reduceIte, reduceCtorEq, Int.reduceLT, Int.reduceLE, Int.reduceToNat, Nat.reduceAdd, Nat.reduceMul, Nat.reduceLeDiff, Nat.reduceLT, Nat.reduceSub, Int.reduceNeg, Int.reduceEq, Int.reduceBEq, Int.reduceBNe, Nat.reduceEqDiff, f, m1, m2, ar, o, hh]
theorem sq1_nonneg (a b : Rat) : 0 ≤ sq1 a b := by
  unfold sq1
  split
  · exact Rat.le_refl
  · exact le_minQ.2 ⟨sq_nonneg a, sq_nonneg b⟩
theorem sq2_nonneg (a b : Rat) : 0 ≤ sq2 a b := Rat.le_trans (sq_nonneg a) le_max1
theorem CosSpan_spec {a b : Rat} (g : SP a b) (h1 : SQ (a * a)) (h2 : SQ (b * b)) (k1 : SQ (sq1 a b)) (k2 : SQ (1 - sq1 a b)) (k3 : SQ (1 + sq1 a b)) (l1 : SQ (sq2 a b)) (l2 : SQ (1 - sq2 a b)) (l3 : SQ (1 + sq2 a b)) (lo : Nat) (h : VHeap) :
    callVL vp lo n_turn_CosSpan [.agg (rv a ++ rv b)] h = some (.agg (rv (cosF (sq2 a b)) ++ rv (cosF (sq1 a b))), h) := by
  refine call_valE (fn := turn_CosSpan_v) rfl rfl rfl rfl rfl ?_ lo h
  have s := Sq_spec g h1 h2
  have c1 := cosC_spec k1 (sq1_nonneg a b) k2 k3
  have c2 := cosC_spec l1 (sq2_nonneg a b) l2 l3
  generalize sq1 a b = M at *
  generalize sq2 a b = N at *
  obtain ⟨p1, q1, r1, e1⟩ := rvx a
  obtain ⟨p2, q2, r2, e2⟩ := rvx b
  obtain ⟨p3, q3, r3, e3⟩ := rvx M
  obtain ⟨p4, q4, r4, e4⟩ := rvx N
  obtain ⟨p5, q5, r5, e5⟩ := rvx (cosF M)
  obtain ⟨p6, q6, r6, e6⟩ := rvx (cosF N)
  simp only [e1, e2, e3, e4, e5, e6, List.cons_append, List.nil_append] at s c1 c2 ⊢
  clear e1 e2 e3 e4 e5 e6
  simp -implicitDefEqProofs only [go_sem, ↓reduceIte, reduceCtorEq, Int.reduceLT, Int.reduceLE, Int.reduceToNat, Nat.reduceAdd, Nat.reduceMul, Nat.reduceLeDiff, Nat.reduceLT, Nat.reduceSub, Int.reduceNeg, Int.reduceEq, Int.reduceBEq, Int.reduceBNe, Nat.reduceEqDiff, s, c1, c2]
end Vg.G3
namespace Vg.G3
open Go Lg Vg.Nm
set_option linter.unusedSimpArgs false
set_option linter.unusedVariables false
set_option maxRecDepth 10000
set_option maxHeartbeats 8000000
attribute [local congr] bind_congr1
attribute [local go_sem] turn_SinSpan_r0 turn_SinSpan_r1 turn_SinSpan_r2 turn_SinSpan_r2_d turn_SinSpan_r3 turn_SinSpan_r4 turn_SinSpan_r5 turn_SinSpan_r6 turn_SinSpan_r7 turn_SinSpan_r8 turn_SinSpan_r8_d turn_SinSpan_r9 turn_SinSpan_r10 turn_SinSpan_f turn_SinSpan_v vec_Add_r0 vec_Add_r1 vec_Add_r1_d vec_Add_f vec_Add_v vec_Turn_r0 vec_Turn_r1 vec_Turn_r1_d vec_Turn_r2 vec_Turn_r2_d vec_Turn_f vec_Turn_v frame_Put_r0 frame_Put_r1 frame_Put_r1_d frame_Put_f frame_Put_v

theorem maxQ_self (p : Rat) : maxQ p p = p := by unfold maxQ; split <;> rfl
theorem min_max {a b c d : Rat} (h : a ≤ b) : minQ a c ≤ maxQ b d := Rat.le_trans min_le1 (Rat.le_trans h le_max1)
theorem join_sp {a b c d : Rat} (g : SP a b) (k : SP c d) : SP (minQ a c) (maxQ b d) := ⟨minQ_sq g.ga k.ga, maxQ_sq g.gb k.gb, min_max g.le⟩
theorem mul_sp {a b c d : Rat} (h1 : SQ (a * c)) (h2 : SQ (a * d)) (h3 : SQ (b * c)) (h4 : SQ (b * d)) : SP (mul1 a b c d) (mul2 a b c d) :=
  ⟨minQ_sq (minQ_sq (minQ_sq h1 h2) h3) h4, maxQ_sq (maxQ_sq (maxQ_sq h1 h2) h3) h4, min_max (min_max (min_max Rat.le_refl))⟩
def snA (a b : Rat) : Rat := if a ≤ -1 ∧ -1 ≤ b then minQ (minQ (sinF a) (sinF b)) (-1) else minQ (sinF a) (sinF b)
def snB (a b : Rat) : Rat := if a ≤ -1 ∧ -1 ≤ b then maxQ (maxQ (sinF a) (sinF b)) (-1) else maxQ (sinF a) (sinF b)
def sn1 (a b : Rat) : Rat := if a ≤ 1 ∧ 1 ≤ b then minQ (snA a b) 1 else snA a b
def sn2 (a b : Rat) : Rat := if a ≤ 1 ∧ 1 ≤ b then maxQ (snB a b) 1 else snB a b
theorem has_iff {a b p : Rat} : (decide (a ≤ p) && decide (p ≤ b)) = decide (a ≤ p ∧ p ≤ b) := (Bool.decide_and _ _).symm
theorem SinSpan_spec {a b : Rat} (g : SP a b) (ta : TQ a) (tb : TQ b) (sa : SQ (sinF a)) (sb : SQ (sinF b)) (lo : Nat) (h : VHeap) :
    callVL vp lo n_turn_SinSpan [.agg (rv a ++ rv b)] h = some (.agg (rv (sn1 a b) ++ rv (sn2 a b)), h) ∧ SP (sn1 a b) (sn2 a b) := by
  have j0 := spanJoin_spec g g
  rw [minQ_self, maxQ_self] at j0
  have o1 := turnOf_spec g.ga.fq
  have o2 := turnOf_spec g.gb.fq
  have s1 := Sin_spec ta
  have s2 := Sin_spec tb
  have f1 := spanOf_spec sa.fq
  have f2 := spanOf_spec sb.fq
  have j1 := spanJoin_spec (SP.self sa) (SP.self sb)
  have g1 := join_sp (SP.self sa) (SP.self sb)
  have om := OfmQ_spec
  have op := Of1Q_spec
  have hm := spanHas_spec g SQ.mone.fq
  have hp := spanHas_spec g SQ.one.fq
  rw [has_iff] at hm hp
  have fm := spanOf_spec SQ.mone.fq
  have fp := spanOf_spec SQ.one.fq
  have w0 : IntKind.i64.wrap (0 + 1) = 1 := by decide
  have w1 : IntKind.i64.wrap (1 + 1) = 2 := by decide
  unfold sn1 sn2 snA snB
  generalize minQ (sinF a) (sinF b) = M0 at *
  generalize maxQ (sinF a) (sinF b) = N0 at *
  have j2 := spanJoin_spec g1 (SP.self SQ.mone)
  have g2 := join_sp g1 (SP.self SQ.mone)
  have j3 := spanJoin_spec g1 (SP.self SQ.one)
  have g3 := join_sp g1 (SP.self SQ.one)
  have j4 := spanJoin_spec g2 (SP.self SQ.one)
  have g4 := join_sp g2 (SP.self SQ.one)
  generalize hM3 : minQ (minQ M0 (-1)) 1 = M3 at *
  generalize hN3 : maxQ (maxQ N0 (-1)) 1 = N3 at *
  generalize hM1 : minQ M0 (-1) = M1 at *
  generalize hN1 : maxQ N0 (-1) = N1 at *
  generalize hM2 : minQ M0 1 = M2 at *
  generalize hN2 : maxQ N0 1 = N2 at *
  refine ⟨?_, ?_⟩
  · refine call_valE (fn := turn_SinSpan_v) rfl rfl rfl rfl rfl ?_ lo h
    clear g ta tb sa sb g1 g2 g3 g4
    generalize sinF a = va at *
    generalize sinF b = vb at *
    obtain ⟨p1, q1, r1, e1⟩ := rvx a
    obtain ⟨p2, q2, r2, e2⟩ := rvx b
    obtain ⟨p3, q3, r3, e3⟩ := rvx va
    obtain ⟨p4, q4, r4, e4⟩ := rvx vb
    obtain ⟨p5, q5, r5, e5⟩ := rvx M0
    obtain ⟨p6, q6, r6, e6⟩ := rvx N0
    obtain ⟨p7, q7, r7, e7⟩ := rvx M1
    obtain ⟨p8, q8, r8, e8⟩ := rvx N1
    obtain ⟨p9, q9, r9, e9⟩ := rvx M2
    obtain ⟨p10, q10, r10, e10⟩ := rvx N2
    obtain ⟨p11, q11, r11, e11⟩ := rvx M3
    obtain ⟨p12, q12, r12, e12⟩ := rvx N3
    obtain ⟨p13, q13, r13, e13⟩ := rvx (-1 : Rat)
    obtain ⟨p14, q14, r14, e14⟩ := rvx (1 : Rat)
    by_cases c1 : a ≤ -1 ∧ -1 ≤ b <;> by_cases c2 : a ≤ 1 ∧ 1 ≤ b <;> simp only [c1, c2, if_true, if_false, and_self, decide_true, decide_false, hM1, hN1, hM2, hN2, hM3, hN3] at hm hp ⊢ <;>
      simp only [e1, e2, e3, e4, e5, e6, e7, e8, e9, e10, e11, e12, e13, e14, List.cons_append, List.nil_append] at j0 o1 o2 s1 s2 f1 f2 j1 om op hm hp fm fp j2 j3 j4 ⊢ <;>
      clear e1 e2 e3 e4 e5 e6 e7 e8 e9 e10 e11 e12 e13 e14 <;>
      simp -implicitDefEqProofs only [turn_SinSpan_b0, go_sem, ↓reduceIte, reduceCtorEq, Int.reduceLT, Int.reduceLE, Int.reduceToNat, Nat.reduceAdd, Nat.reduceMul, Nat.reduceLeDiff, Nat.reduceLT, Nat.reduceSub, Int.reduceNeg, Int.reduceEq, Int.reduceBEq, Int.reduceBNe, Nat.reduceEqDiff, loopV_eq, ↓thenV_norm, ↓thenV_exit, ↓thenV_ret, j0, o1, o2, s1, s2, f1, f2, j1, om, op, hm, hp, fm, fp, j2, j3, j4, w0, w1, Int.lt_irrefl]
  · by_cases c1 : a ≤ -1 ∧ -1 ≤ b <;> by_cases c2 : a ≤ 1 ∧ 1 ≤ b <;> simp only [c1, c2, if_true, if_false, and_self, hM1, hN1, hM2, hN2, hM3, hN3] <;> assumption
/-- A point. -/
def ptv (x y : Rat) : List VV := rv x ++ rv y
theorem vecAdd_spec {a b c d : Rat} (ga : SQ a) (gb : SQ b) (gc : SQ c) (gd : SQ d) (lo : Nat) (h : VHeap) : callVL vp lo n_vec_Add [.agg (ptv a b), .agg (ptv c d)] h = some (.agg (ptv (a + c) (b + d)), h) := by
  refine call_valE (fn := vec_Add_v) rfl rfl rfl rfl rfl ?_ lo h
  have s1 := AddQ_spec ga gc
  have s2 := AddQ_spec gb gd
  unfold ptv
  obtain ⟨p1, q1, r1, e1⟩ := rvx a
  obtain ⟨p2, q2, r2, e2⟩ := rvx b
  obtain ⟨p3, q3, r3, e3⟩ := rvx c
  obtain ⟨p4, q4, r4, e4⟩ := rvx d
  obtain ⟨p5, q5, r5, e5⟩ := rvx (a + c)
  obtain ⟨p6, q6, r6, e6⟩ := rvx (b + d)
  simp only [e1, e2, e3, e4, e5, e6, List.cons_append, List.nil_append] at s1 s2 ⊢
  clear e1 e2 e3 e4 e5 e6
  simp -implicitDefEqProofs only [go_sem, ↓reduceIte, reduceCtorEq, Int.reduceLT, Int.reduceLE, Int.reduceToNat, Nat.reduceAdd, Nat.reduceMul, Nat.reduceLeDiff, Nat.reduceLT, Nat.reduceSub, Int.reduceNeg, Int.reduceEq, Int.reduceBEq, Int.reduceBNe, Nat.reduceEqDiff, s1, s2]
/-- What turning a point asks of its numbers. -/
structure VT (x y t : Rat) : Prop where
  gx : SQ x
  gy : SQ y
  gt : TQ t
  c : SQ (cosF (t * t))
  s : SQ (sinF t)
  xc : SQ (x * cosF (t * t))
  ys : SQ (y * sinF t)
  xs : SQ (x * sinF t)
  yc : SQ (y * cosF (t * t))
def trX (x y t : Rat) : Rat := x * cosF (t * t) - y * sinF t
def trY (x y t : Rat) : Rat := x * sinF t + y * cosF (t * t)
theorem vecTurn_spec {x y t : Rat} (g : VT x y t) (lo : Nat) (h : VHeap) : callVL vp lo n_vec_Turn [.agg (ptv x y), .agg (.bool false :: rv t)] h = some (.agg (ptv (trX x y t) (trY x y t)), h) := by
  refine call_valE (fn := vec_Turn_v) rfl rfl rfl rfl rfl ?_ lo h
  have c := Cos_spec g.gt
  have s := Sin_spec g.gt
  have m1 := MulQ_spec g.gx g.c
  have m2 := MulQ_spec g.gy g.s
  have m3 := MulQ_spec g.gx g.s
  have m4 := MulQ_spec g.gy g.c
  have a1 := SubQ_spec g.xc g.ys
  have a2 := AddQ_spec g.xs g.yc
  rw [show x * cosF (t * t) - y * sinF t = trX x y t from rfl] at a1
  rw [show x * sinF t + y * cosF (t * t) = trY x y t from rfl] at a2
  unfold ptv
  generalize trX x y t = U at *
  generalize trY x y t = V at *
  obtain ⟨p1, q1, r1, e1⟩ := rvx x
  obtain ⟨p2, q2, r2, e2⟩ := rvx y
  obtain ⟨p3, q3, r3, e3⟩ := rvx t
  obtain ⟨p4, q4, r4, e4⟩ := rvx (cosF (t * t))
  obtain ⟨p5, q5, r5, e5⟩ := rvx (sinF t)
  obtain ⟨p6, q6, r6, e6⟩ := rvx (x * cosF (t * t))
  obtain ⟨p7, q7, r7, e7⟩ := rvx (y * sinF t)
  obtain ⟨p8, q8, r8, e8⟩ := rvx (x * sinF t)
  obtain ⟨p9, q9, r9, e9⟩ := rvx (y * cosF (t * t))
  obtain ⟨p10, q10, r10, e10⟩ := rvx U
  obtain ⟨p11, q11, r11, e11⟩ := rvx V
  simp only [e1, e2, e3, e4, e5, e6, e7, e8, e9, e10, e11, List.cons_append, List.nil_append] at c s m1 m2 m3 m4 a1 a2 ⊢
  clear e1 e2 e3 e4 e5 e6 e7 e8 e9 e10 e11
  simp -implicitDefEqProofs only [go_sem, ↓reduceIte, reduceCtorEq, Int.reduceLT, Int.reduceLE, Int.reduceToNat, Nat.reduceAdd, Nat.reduceMul, Nat.reduceLeDiff, Nat.reduceLT, Nat.reduceSub, Int.reduceNeg, Int.reduceEq, Int.reduceBEq, Int.reduceBNe, Nat.reduceEqDiff, c, s, m1, m2, m3, m4, a1, a2]
theorem Put_spec {fx fy x y t : Rat} (g : VT x y t) (gx : SQ fx) (gy : SQ fy) (h1 : SQ (trX x y t)) (h2 : SQ (trY x y t)) (lo : Nat) (h : VHeap) : callVL vp lo n_frame_Put [.agg (frv (rv fx) (rv fy) (rv t)), .agg (ptv x y)] h = some (.agg (ptv (fx + trX x y t) (fy + trY x y t)), h) := by
  refine call_valE (fn := frame_Put_v) rfl rfl rfl rfl rfl ?_ lo h
  have v := vecTurn_spec g
  have a := vecAdd_spec gx gy h1 h2
  unfold ptv frv at *
  generalize trX x y t = U at *
  generalize trY x y t = V at *
  obtain ⟨p1, q1, r1, e1⟩ := rvx x
  obtain ⟨p2, q2, r2, e2⟩ := rvx y
  obtain ⟨p3, q3, r3, e3⟩ := rvx t
  obtain ⟨p4, q4, r4, e4⟩ := rvx fx
  obtain ⟨p5, q5, r5, e5⟩ := rvx fy
  obtain ⟨p6, q6, r6, e6⟩ := rvx U
  obtain ⟨p7, q7, r7, e7⟩ := rvx V
  obtain ⟨p8, q8, r8, e8⟩ := rvx (fx + U)
  obtain ⟨p9, q9, r9, e9⟩ := rvx (fy + V)
  simp only [e1, e2, e3, e4, e5, e6, e7, e8, e9, List.cons_append, List.nil_append] at v a ⊢
  clear e1 e2 e3 e4 e5 e6 e7 e8 e9
  simp -implicitDefEqProofs only [go_sem, ↓reduceIte, reduceCtorEq, Int.reduceLT, Int.reduceLE, Int.reduceToNat, Nat.reduceAdd, Nat.reduceMul, Nat.reduceLeDiff, Nat.reduceLT, Nat.reduceSub, Int.reduceNeg, Int.reduceEq, Int.reduceBEq, Int.reduceBNe, Nat.reduceEqDiff, v, a]
end Vg.G3
namespace Vg.G3
open Go Lg Vg.Nm
set_option linter.unusedSimpArgs false
set_option linter.unusedVariables false
set_option maxRecDepth 10000
set_option maxHeartbeats 8000000
attribute [local congr] bind_congr1
attribute [local go_sem] see_Point_r0 see_Point_r1 see_Point_r1_d see_Point_r2 see_Point_r2_d see_Point_r3 see_Point_r3_d see_Point_r4 see_Point_r4_d see_Point_r5 see_Point_f see_Point_v

/-- What the box of a point asks of its numbers. -/
structure PT (p : Po) (c1 c2 s1 s2 x y : Rat) : Prop where
  ok : p.ok
  cs : ∀ lo h, callVL vp lo n_turn_CosSpan [.agg (rv p.t1 ++ rv p.t2)] h = some (.agg (rv c1 ++ rv c2), h)
  sn : ∀ lo h, callVL vp lo n_turn_SinSpan [.agg (rv p.t1 ++ rv p.t2)] h = some (.agg (rv s1 ++ rv s2), h)
  c : SP c1 c2
  s : SP s1 s2
  gx : SQ x
  gy : SQ y
  h1 : SQ (c1 * x)
  h2 : SQ (c2 * x)
  h3 : SQ (s1 * y)
  h4 : SQ (s2 * y)
  h5 : SQ (s1 * x)
  h6 : SQ (s2 * x)
  h7 : SQ (c1 * y)
  h8 : SQ (c2 * y)
  dx : SP (mul1 c1 c2 x x - mul2 s1 s2 y y) (mul2 c1 c2 x x - mul1 s1 s2 y y)
  dy : SP (mul1 s1 s2 x x + mul1 c1 c2 y y) (mul2 s1 s2 x x + mul2 c1 c2 y y)
def bxv (a b c d : Rat) : List VV := ptv a b ++ ptv c d
def bX1 (p : Po) (c1 c2 s1 s2 x y : Rat) : Rat := p.x1 + (mul1 c1 c2 x x - mul2 s1 s2 y y)
def bX2 (p : Po) (c1 c2 s1 s2 x y : Rat) : Rat := p.x2 + (mul2 c1 c2 x x - mul1 s1 s2 y y)
def bY1 (p : Po) (c1 c2 s1 s2 x y : Rat) : Rat := p.y1 + (mul1 s1 s2 x x + mul1 c1 c2 y y)
def bY2 (p : Po) (c1 c2 s1 s2 x y : Rat) : Rat := p.y2 + (mul2 s1 s2 x x + mul2 c1 c2 y y)
theorem Point_spec {p : Po} {c1 c2 s1 s2 x y : Rat} (g : PT p c1 c2 s1 s2 x y) (lo : Nat) (h : VHeap) : callVL vp lo n_see_Point [.agg p.v, .agg (ptv x y)] h = some (.agg (bxv (bX1 p c1 c2 s1 s2 x y) (bY1 p c1 c2 s1 s2 x y) (bX2 p c1 c2 s1 s2 x y) (bY2 p c1 c2 s1 s2 x y)), h) := by
  refine call_valE (fn := see_Point_v) rfl rfl rfl rfl rfl ?_ lo h
  have n1 := norm_spec g.ok.x
  have n2 := norm_spec g.ok.y
  have n3 := norm_spec g.ok.t
  have cs := g.cs
  have sn := g.sn
  have ox := spanOf_spec g.gx.fq
  have oy := spanOf_spec g.gy.fq
  have m1 := spanMul_spec g.c (SP.self g.gx) g.h1 g.h1 g.h2 g.h2
  have m2 := spanMul_spec g.s (SP.self g.gy) g.h3 g.h3 g.h4 g.h4
  have m3 := spanMul_spec g.s (SP.self g.gx) g.h5 g.h5 g.h6 g.h6
  have m4 := spanMul_spec g.c (SP.self g.gy) g.h7 g.h7 g.h8 g.h8
  have k1 := mul_sp g.h1 g.h1 g.h2 g.h2
  have k2 := mul_sp g.h3 g.h3 g.h4 g.h4
  have k3 := mul_sp g.h5 g.h5 g.h6 g.h6
  have k4 := mul_sp g.h7 g.h7 g.h8 g.h8
  have d1 := spanSub_spec k1 k2
  have d2 := spanAdd_spec k3 k4
  have a1 := spanAdd_spec g.ok.x g.dx
  have a2 := spanAdd_spec g.ok.y g.dy
  rw [show p.x1 + (mul1 c1 c2 x x - mul2 s1 s2 y y) = bX1 p c1 c2 s1 s2 x y from rfl, show p.x2 + (mul2 c1 c2 x x - mul1 s1 s2 y y) = bX2 p c1 c2 s1 s2 x y from rfl] at a1
  rw [show p.y1 + (mul1 s1 s2 x x + mul1 c1 c2 y y) = bY1 p c1 c2 s1 s2 x y from rfl, show p.y2 + (mul2 s1 s2 x x + mul2 c1 c2 y y) = bY2 p c1 c2 s1 s2 x y from rfl] at a2
  clear g k1 k2 k3 k4
  unfold Po.v bxv ptv
  generalize bX1 p c1 c2 s1 s2 x y = A1 at *
  generalize bX2 p c1 c2 s1 s2 x y = A2 at *
  generalize bY1 p c1 c2 s1 s2 x y = B1 at *
  generalize bY2 p c1 c2 s1 s2 x y = B2 at *
  generalize mul1 c1 c2 x x - mul2 s1 s2 y y = D1 at *
  generalize mul2 c1 c2 x x - mul1 s1 s2 y y = D2 at *
  generalize mul1 s1 s2 x x + mul1 c1 c2 y y = D3 at *
  generalize mul2 s1 s2 x x + mul2 c1 c2 y y = D4 at *
  generalize mul1 c1 c2 x x = M1 at *
  generalize mul2 c1 c2 x x = M2 at *
  generalize mul1 s1 s2 y y = M3 at *
  generalize mul2 s1 s2 y y = M4 at *
  generalize mul1 s1 s2 x x = M5 at *
  generalize mul2 s1 s2 x x = M6 at *
  generalize mul1 c1 c2 y y = M7 at *
  generalize mul2 c1 c2 y y = M8 at *
  obtain ⟨px1, px2, py1, py2, pt1, pt2⟩ := p
  simp only at n1 n2 n3 cs sn a1 a2 ⊢
  obtain ⟨b0', x0', y0', h0'⟩ := rvx px1
  obtain ⟨b1', x1', y1', h1'⟩ := rvx px2
  obtain ⟨b2', x2', y2', h2'⟩ := rvx py1
  obtain ⟨b3', x3', y3', h3'⟩ := rvx py2
  obtain ⟨b4', x4', y4', h4'⟩ := rvx pt1
  obtain ⟨b5', x5', y5', h5'⟩ := rvx pt2
  obtain ⟨b6', x6', y6', h6'⟩ := rvx c1
  obtain ⟨b7', x7', y7', h7'⟩ := rvx c2
  obtain ⟨b8', x8', y8', h8'⟩ := rvx s1
  obtain ⟨b9', x9', y9', h9'⟩ := rvx s2
  obtain ⟨b10', x10', y10', h10'⟩ := rvx x
  obtain ⟨b11', x11', y11', h11'⟩ := rvx y
  obtain ⟨b12', x12', y12', h12'⟩ := rvx A1
  obtain ⟨b13', x13', y13', h13'⟩ := rvx A2
  obtain ⟨b14', x14', y14', h14'⟩ := rvx B1
  obtain ⟨b15', x15', y15', h15'⟩ := rvx B2
  obtain ⟨b16', x16', y16', h16'⟩ := rvx D1
  obtain ⟨b17', x17', y17', h17'⟩ := rvx D2
  obtain ⟨b18', x18', y18', h18'⟩ := rvx D3
  obtain ⟨b19', x19', y19', h19'⟩ := rvx D4
  obtain ⟨b20', x20', y20', h20'⟩ := rvx M1
  obtain ⟨b21', x21', y21', h21'⟩ := rvx M2
  obtain ⟨b22', x22', y22', h22'⟩ := rvx M3
  obtain ⟨b23', x23', y23', h23'⟩ := rvx M4
  obtain ⟨b24', x24', y24', h24'⟩ := rvx M5
  obtain ⟨b25', x25', y25', h25'⟩ := rvx M6
  obtain ⟨b26', x26', y26', h26'⟩ := rvx M7
  obtain ⟨b27', x27', y27', h27'⟩ := rvx M8
  simp only [h0', h1', h2', h3', h4', h5', h6', h7', h8', h9', h10', h11', h12', h13', h14', h15', h16', h17', h18', h19', h20', h21', h22', h23', h24', h25', h26', h27', List.cons_append, List.nil_append] at n1 n2 n3 cs sn ox oy m1 m2 m3 m4 d1 d2 a1 a2 ⊢
  clear h0' h1' h2' h3' h4' h5' h6' h7' h8' h9' h10' h11' h12' h13' h14' h15' h16' h17' h18' h19' h20' h21' h22' h23' h24' h25' h26' h27'
  simp -implicitDefEqProofs only [go_sem, ↓reduceIte, reduceCtorEq, Int.reduceLT, Int.reduceLE, Int.reduceToNat, Nat.reduceAdd, Nat.reduceMul, Nat.reduceLeDiff, Nat.reduceLT, Nat.reduceSub, Int.reduceNeg, Int.reduceEq, Int.reduceBEq, Int.reduceBNe, Nat.reduceEqDiff, n1, n2, n3, cs, sn, ox, oy, m1, m2, m3, m4, d1, d2, a1, a2]
end Vg.G3
namespace Vg.G3
open Go Lg Vg.Nm
set_option linter.unusedSimpArgs false
set_option linter.unusedVariables false
set_option maxRecDepth 10000
set_option maxHeartbeats 8000000
attribute [local congr] bind_congr1
-- nothing

/-- A coordinate in parts of 120. -/
def P120 (x : Rat) : Prop := ∃ k : Int, x = mkRat k 120 ∧ k.natAbs ≤ 960
end Vg.G3
namespace Vg.G3
open Go Lg Vg.Nm
set_option linter.unusedSimpArgs false
set_option linter.unusedVariables false
set_option maxRecDepth 10000
set_option maxHeartbeats 8000000
attribute [local congr] bind_congr1
-- nothing

end Vg.G3
