import Derived.Test.YtpclbojoknhnlaaDoorVRB
namespace Vg.G3
open Go Lg Vg.Nm
set_option linter.unusedSimpArgs false
set_option linter.unusedVariables false
set_option maxRecDepth 10000
set_option maxHeartbeats 4000000
attribute [local congr] bind_congr1
attribute [local go_sem] span_Add_r0 span_Add_r1 span_Add_r1_d span_Add_r2 span_Add_r2_d span_Add_f span_Add_v span_Sub_r0 span_Sub_r1 span_Sub_r1_d span_Sub_r2 span_Sub_r2_d span_Sub_f span_Sub_v span_around_r0 span_around_r1 span_around_r2 span_around_r3 span_around_r4 span_around_r5 span_around_r5_d span_around_r6 span_around_r7 span_around_f span_around_v span_Mul_r0 span_Mul_r1 span_Mul_r1_d span_Mul_r2 span_Mul_r2_d span_Mul_f span_Mul_v

theorem spanAdd_spec {a b c d : Rat} (g : SP a b) (k : SP c d) (lo : Nat) (h : VHeap) : callVL vp lo n_span_Add [.agg (rv a ++ rv b), .agg (rv c ++ rv d)] h = some (.agg (rv (a + c) ++ rv (b + d)), h) := by
  refine call_valE (fn := span_Add_v) rfl rfl rfl rfl rfl ?_ lo h
  have f1 := spanfit_spec g
  have f2 := spanfit_spec k
  have s1 := AddQ_spec g.ga k.ga
  have s2 := AddQ_spec g.gb k.gb
  obtain ⟨p1, q1, r1, e1⟩ := rvx a
  obtain ⟨p2, q2, r2, e2⟩ := rvx b
  obtain ⟨p3, q3, r3, e3⟩ := rvx c
  obtain ⟨p4, q4, r4, e4⟩ := rvx d
  obtain ⟨p5, q5, r5, e5⟩ := rvx (a + c)
  obtain ⟨p6, q6, r6, e6⟩ := rvx (b + d)
  simp only [e1, e2, e3, e4, e5, e6, List.cons_append, List.nil_append] at f1 f2 s1 s2 ⊢
  clear e1 e2 e3 e4 e5 e6
  simp -implicitDefEqProofs only [go_sem, ↓reduceIte, reduceCtorEq, Int.reduceLT, Int.reduceLE, Int.reduceToNat, Nat.reduceAdd, Nat.reduceMul, Nat.reduceLeDiff, Nat.reduceLT, Nat.reduceSub, Int.reduceNeg, Int.reduceEq, Int.reduceBEq, Int.reduceBNe, Nat.reduceEqDiff, f1, f2, s1, s2]
theorem spanSub_spec {a b c d : Rat} (g : SP a b) (k : SP c d) (lo : Nat) (h : VHeap) : callVL vp lo n_span_Sub [.agg (rv a ++ rv b), .agg (rv c ++ rv d)] h = some (.agg (rv (a - d) ++ rv (b - c)), h) := by
  refine call_valE (fn := span_Sub_v) rfl rfl rfl rfl rfl ?_ lo h
  have f1 := spanfit_spec g
  have f2 := spanfit_spec k
  have s1 := SubQ_spec g.ga k.gb
  have s2 := SubQ_spec g.gb k.ga
  obtain ⟨p1, q1, r1, e1⟩ := rvx a
  obtain ⟨p2, q2, r2, e2⟩ := rvx b
  obtain ⟨p3, q3, r3, e3⟩ := rvx c
  obtain ⟨p4, q4, r4, e4⟩ := rvx d
  obtain ⟨p5, q5, r5, e5⟩ := rvx (a - d)
  obtain ⟨p6, q6, r6, e6⟩ := rvx (b - c)
  simp only [e1, e2, e3, e4, e5, e6, List.cons_append, List.nil_append] at f1 f2 s1 s2 ⊢
  clear e1 e2 e3 e4 e5 e6
  simp -implicitDefEqProofs only [go_sem, ↓reduceIte, reduceCtorEq, Int.reduceLT, Int.reduceLE, Int.reduceToNat, Nat.reduceAdd, Nat.reduceMul, Nat.reduceLeDiff, Nat.reduceLT, Nat.reduceSub, Int.reduceNeg, Int.reduceEq, Int.reduceBEq, Int.reduceBNe, Nat.reduceEqDiff, f1, f2, s1, s2]
theorem around4_spec {a b c d : Rat} (ga : SQ a) (gb : SQ b) (gc : SQ c) (gd : SQ d) (lo : Nat) (h : VHeap) : callVL vp lo n_span_around [.list .s [rv a, rv b, rv c, rv d]] h = some (.agg (rv (minQ (minQ (minQ a b) c) d) ++ rv (maxQ (maxQ (maxQ a b) c) d)), h) := by
  refine call_valE (fn := span_around_v) rfl rfl rfl rfl rfl ?_ lo h
  have o := spanOf_spec ga.fq
  have s1 := MinQ_spec ga gb
  have s2 := MaxQ_spec ga gb
  have s3 := MinQ_spec (minQ_sq ga gb) gc
  have s4 := MaxQ_spec (maxQ_sq ga gb) gc
  have s5 := MinQ_spec (minQ_sq (minQ_sq ga gb) gc) gd
  have s6 := MaxQ_spec (maxQ_sq (maxQ_sq ga gb) gc) gd
  have w0 : IntKind.i64.wrap (0 + 1) = 1 := by decide
  have w1 : IntKind.i64.wrap (1 + 1) = 2 := by decide
  have w2 : IntKind.i64.wrap (2 + 1) = 3 := by decide
  generalize minQ (minQ (minQ a b) c) d = M3 at *
  generalize maxQ (maxQ (maxQ a b) c) d = N3 at *
  generalize minQ (minQ a b) c = M2 at *
  generalize maxQ (maxQ a b) c = N2 at *
  generalize minQ a b = M1 at *
  generalize maxQ a b = N1 at *
  obtain ⟨p1, q1, r1, e1⟩ := rvx a
  obtain ⟨p2, q2, r2, e2⟩ := rvx b
  obtain ⟨p3, q3, r3, e3⟩ := rvx c
  obtain ⟨p4, q4, r4, e4⟩ := rvx d
  obtain ⟨p5, q5, r5, e5⟩ := rvx M1
  obtain ⟨p6, q6, r6, e6⟩ := rvx N1
  obtain ⟨p7, q7, r7, e7⟩ := rvx M2
  obtain ⟨p8, q8, r8, e8⟩ := rvx N2
  obtain ⟨p9, q9, r9, e9⟩ := rvx M3
  obtain ⟨p10, q10, r10, e10⟩ := rvx N3
  simp only [e1, e2, e3, e4, e5, e6, e7, e8, e9, e10, List.cons_append, List.nil_append] at o s1 s2 s3 s4 s5 s6 ⊢
  clear e1 e2 e3 e4 e5 e6 e7 e8 e9 e10
  simp -implicitDefEqProofs only [span_around_b0, go_sem, ↓reduceIte, reduceCtorEq, Int.reduceLT, Int.reduceLE, Int.reduceToNat, Nat.reduceAdd, Nat.reduceMul, Nat.reduceLeDiff, Nat.reduceLT, Nat.reduceSub, Int.reduceNeg, Int.reduceEq, Int.reduceBEq, Int.reduceBNe, Nat.reduceEqDiff, loopV_eq, ↓thenV_norm, ↓thenV_exit, ↓thenV_ret, o, s1, s2, s3, s4, s5, s6, w0, w1, w2, Int.lt_irrefl]
def mul1 (a b c d : Rat) : Rat := minQ (minQ (minQ (a * c) (a * d)) (b * c)) (b * d)
def mul2 (a b c d : Rat) : Rat := maxQ (maxQ (maxQ (a * c) (a * d)) (b * c)) (b * d)
theorem spanMul_spec {a b c d : Rat} (g : SP a b) (k : SP c d) (h1 : SQ (a * c)) (h2 : SQ (a * d)) (h3 : SQ (b * c)) (h4 : SQ (b * d)) (lo : Nat) (h : VHeap) : callVL vp lo n_span_Mul [.agg (rv a ++ rv b), .agg (rv c ++ rv d)] h = some (.agg (rv (mul1 a b c d) ++ rv (mul2 a b c d)), h) := by
  refine call_valE (fn := span_Mul_v) rfl rfl rfl rfl rfl ?_ lo h
  have f1 := spanfit_spec g
  have f2 := spanfit_spec k
  have s1 := MulQ_spec g.ga k.ga
  have s2 := MulQ_spec g.ga k.gb
  have s3 := MulQ_spec g.gb k.ga
  have s4 := MulQ_spec g.gb k.gb
  have ar := around4_spec h1 h2 h3 h4
  rw [show minQ (minQ (minQ (a * c) (a * d)) (b * c)) (b * d) = mul1 a b c d from rfl, show maxQ (maxQ (maxQ (a * c) (a * d)) (b * c)) (b * d) = mul2 a b c d from rfl] at ar
  generalize mul1 a b c d = M at *
  generalize mul2 a b c d = N at *
  obtain ⟨p1, q1, r1, e1⟩ := rvx a
  obtain ⟨p2, q2, r2, e2⟩ := rvx b
  obtain ⟨p3, q3, r3, e3⟩ := rvx c
  obtain ⟨p4, q4, r4, e4⟩ := rvx d
  obtain ⟨p5, q5, r5, e5⟩ := rvx (a * c)
  obtain ⟨p6, q6, r6, e6⟩ := rvx (a * d)
  obtain ⟨p7, q7, r7, e7⟩ := rvx (b * c)
  obtain ⟨p8, q8, r8, e8⟩ := rvx (b * d)
  obtain ⟨p9, q9, r9, e9⟩ := rvx M
  obtain ⟨p10, q10, r10, e10⟩ := rvx N
  simp only [e1, e2, e3, e4, e5, e6, e7, e8, e9, e10, List.cons_append, List.nil_append] at f1 f2 s1 s2 s3 s4 ar ⊢
  clear e1 e2 e3 e4 e5 e6 e7 e8 e9 e10
  simp -implicitDefEqProofs only [go_sem, ↓reduceIte, reduceCtorEq, Int.reduceLT, Int.reduceLE, Int.reduceToNat, Nat.reduceAdd, Nat.reduceMul, Nat.reduceLeDiff, Nat.reduceLT, Nat.reduceSub, Int.reduceNeg, Int.reduceEq, Int.reduceBEq, Int.reduceBNe, Nat.reduceEqDiff, f1, f2, s1, s2, s3, s4, ar]
end Vg.G3
namespace Vg.G3
open Go Lg Vg.Nm
set_option linter.unusedSimpArgs false
set_option linter.unusedVariables false
set_option maxRecDepth 10000
set_option maxHeartbeats 4000000
attribute [local congr] bind_congr1
attribute [local go_sem] rat_Of_r0 rat_Of_r1 rat_Of_r2 rat_Of_r3 rat_Of_f rat_Of_v turn_Of_r0 turn_Of_r1 turn_Of_f turn_Of_v turn_fit_r0 turn_fit_r1 turn_fit_r2 turn_fit_r3 turn_fit_f turn_fit_v turn_Cos_r0 turn_Cos_r1 turn_Cos_r2 turn_Cos_r3 turn_Cos_r4 turn_Cos_r5 turn_Cos_r5_d turn_Cos_r6 turn_Cos_f turn_Cos_v turn_Sin_r0 turn_Sin_r1 turn_Sin_r2 turn_Sin_r2_d turn_Sin_r3 turn_Sin_f turn_Sin_v

theorem num_ne {q : Rat} (h : 0 < q) : q.num ≠ 0 := fun h0 => by
  have e : q = 0 := Rat.ext h0 (by have := q.reduced; rw [h0] at this; simpa [Nat.Coprime] using this)
  rw [e] at h; exact absurd h (by decide)
theorem Of1Q_spec (lo : Nat) (h : VHeap) : callVL vp lo n_rat_Of [.int .i64 1] h = some (.agg (rv 1), h) := OfQ_spec (n := 1) (by decide) lo h
theorem Of0Q_spec (lo : Nat) (h : VHeap) : callVL vp lo n_rat_Of [.int .i64 0] h = some (.agg (rv 0), h) := OfQ_spec (n := 0) (by decide) lo h
theorem SQ.one : SQ 1 := ⟨by decide, by decide⟩
def cosF (a : Rat) : Rat := (1 - a) / (1 + a)
def sinF (t : Rat) : Rat := (t + t) / (1 + t * t)
theorem turnOf_spec {u : List VV} {p : Rat} (gu : FQ u p) (lo : Nat) (h : VHeap) : callVL vp lo n_turn_Of [.agg u] h = some (.agg (.bool false :: rv p), h) := by
  obtain ⟨b3, x3, y3, rfl⟩ := gu.form
  refine call_valE (fn := turn_Of_v) rfl rfl rfl rfl rfl ?_ lo h
  have m := MinF_spec gu gu
  rw [minQ_self] at m
  obtain ⟨b1, x1, y1, e1⟩ := rvx p
  rw [e1] at m ⊢
  simp -implicitDefEqProofs only [go_sem, ↓reduceIte, reduceCtorEq, Int.reduceLT, Int.reduceLE, Int.reduceToNat, Nat.reduceAdd, Nat.reduceMul, Nat.reduceLeDiff, Nat.reduceLT, Nat.reduceSub, Int.reduceNeg, Int.reduceEq, Int.reduceBEq, Int.reduceBNe, Nat.reduceEqDiff, m]
theorem turnfit_spec {t : Rat} (g : SQ t) (lo : Nat) (h : VHeap) : callVL vp lo n_turn_fit [.agg (.bool false :: rv t)] h = some (.agg (.bool false :: rv t), h) := by
  refine call_valE (fn := turn_fit_v) rfl rfl rfl rfl rfl ?_ lo h
  have m := turnOf_spec g.fq
  obtain ⟨b1, x1, y1, e1⟩ := rvx t
  rw [e1] at m ⊢
  simp -implicitDefEqProofs only [go_sem, ↓reduceIte, reduceCtorEq, Int.reduceLT, Int.reduceLE, Int.reduceToNat, Nat.reduceAdd, Nat.reduceMul, Nat.reduceLeDiff, Nat.reduceLT, Nat.reduceSub, Int.reduceNeg, Int.reduceEq, Int.reduceBEq, Int.reduceBNe, Nat.reduceEqDiff, m]
/-- Numbers that the sine and the cosine compute with. -/
structure TQ (t : Rat) : Prop where
  g0 : SQ t
  tt : SQ (t * t)
  s : SQ (1 - t * t)
  a : SQ (1 + t * t)
  d : SQ (t + t)
theorem sq_nonneg (t : Rat) : 0 ≤ t * t := by
  rcases (Rat.le_total : (0 : Rat) ≤ t ∨ t ≤ 0) with h | h
  · exact Rat.mul_nonneg h h
  · have := Rat.mul_nonneg (show 0 ≤ -t by grind) (show 0 ≤ -t by grind)
    grind
theorem one_pos (t : Rat) : 0 < 1 + t * t := by have := sq_nonneg t; grind
theorem Cos_spec {t : Rat} (g : TQ t) (lo : Nat) (h : VHeap) : callVL vp lo n_turn_Cos [.agg (.bool false :: rv t)] h = some (.agg (rv (cosF (t * t))), h) := by
  refine call_valE (fn := turn_Cos_v) rfl rfl rfl rfl rfl ?_ lo h
  have f := turnfit_spec g.g0
  have m := MulQ_spec g.g0 g.g0
  have o := Of1Q_spec
  have s := SubQ_spec SQ.one g.tt
  have a := AddQ_spec SQ.one g.tt
  have d := DivQ_spec g.s g.a (num_ne (one_pos t))
  rw [show (1 - t * t) / (1 + t * t) = cosF (t * t) from rfl] at d
  obtain ⟨p1, q1, r1, e1⟩ := rvx t
  obtain ⟨p2, q2, r2, e2⟩ := rvx (t * t)
  obtain ⟨p3, q3, r3, e3⟩ := rvx 1
  obtain ⟨p4, q4, r4, e4⟩ := rvx (1 - t * t)
  obtain ⟨p5, q5, r5, e5⟩ := rvx (1 + t * t)
  obtain ⟨p6, q6, r6, e6⟩ := rvx (cosF (t * t))
  simp only [e1, e2, e3, e4, e5, e6] at f m o s a d ⊢
  clear e1 e2 e3 e4 e5 e6
  simp -implicitDefEqProofs only [go_sem, ↓reduceIte, reduceCtorEq, Int.reduceLT, Int.reduceLE, Int.reduceToNat, Nat.reduceAdd, Nat.reduceMul, Nat.reduceLeDiff, Nat.reduceLT, Nat.reduceSub, Int.reduceNeg, Int.reduceEq, Int.reduceBEq, Int.reduceBNe, Nat.reduceEqDiff, f, m, o, s, a, d]
theorem Sin_spec {t : Rat} (g : TQ t) (lo : Nat) (h : VHeap) : callVL vp lo n_turn_Sin [.agg (.bool false :: rv t)] h = some (.agg (rv (sinF t)), h) := by
  refine call_valE (fn := turn_Sin_v) rfl rfl rfl rfl rfl ?_ lo h
  have f := turnfit_spec g.g0
  have m := MulQ_spec g.g0 g.g0
  have o := Of1Q_spec
  have s := AddQ_spec g.g0 g.g0
  have a := AddQ_spec SQ.one g.tt
  have d := DivQ_spec g.d g.a (num_ne (one_pos t))
  rw [show (t + t) / (1 + t * t) = sinF t from rfl] at d
  obtain ⟨p1, q1, r1, e1⟩ := rvx t
  obtain ⟨p2, q2, r2, e2⟩ := rvx (t * t)
  obtain ⟨p3, q3, r3, e3⟩ := rvx 1
  obtain ⟨p4, q4, r4, e4⟩ := rvx (t + t)
  obtain ⟨p5, q5, r5, e5⟩ := rvx (1 + t * t)
  obtain ⟨p6, q6, r6, e6⟩ := rvx (sinF t)
  simp only [e1, e2, e3, e4, e5, e6] at f m o s a d ⊢
  clear e1 e2 e3 e4 e5 e6
  simp -implicitDefEqProofs only [go_sem, ↓reduceIte, reduceCtorEq, Int.reduceLT, Int.reduceLE, Int.reduceToNat, Nat.reduceAdd, Nat.reduceMul, Nat.reduceLeDiff, Nat.reduceLT, Nat.reduceSub, Int.reduceNeg, Int.reduceEq, Int.reduceBEq, Int.reduceBNe, Nat.reduceEqDiff, f, m, o, s, a, d]
end Vg.G3
namespace Vg.G3
open Go Lg Vg.Nm
set_option linter.unusedSimpArgs false
set_option linter.unusedVariables false
set_option maxRecDepth 10000
set_option maxHeartbeats 8000000
attribute [local congr] bind_congr1
-- nothing

theorem min_max {a b c d : Rat} (h : a ≤ b) : minQ a c ≤ maxQ b d := Rat.le_trans min_le1 (Rat.le_trans h le_max1)
theorem mul_sp {a b c d : Rat} (h1 : SQ (a * c)) (h2 : SQ (a * d)) (h3 : SQ (b * c)) (h4 : SQ (b * d)) : SP (mul1 a b c d) (mul2 a b c d) :=
  ⟨minQ_sq (minQ_sq (minQ_sq h1 h2) h3) h4, maxQ_sq (maxQ_sq (maxQ_sq h1 h2) h3) h4, min_max (min_max (min_max Rat.le_refl))⟩
end Vg.G3
namespace Vg.G3
open Go Lg Vg.Nm
set_option linter.unusedSimpArgs false
set_option linter.unusedVariables false
set_option maxRecDepth 10000
set_option maxHeartbeats 8000000
attribute [local congr] bind_congr1
-- nothing

end Vg.G3
namespace Vg.G3
open Go Lg Vg.Nm
set_option linter.unusedSimpArgs false
set_option linter.unusedVariables false
set_option maxRecDepth 10000
set_option maxHeartbeats 8000000
attribute [local congr] bind_congr1
-- nothing

/-- A coordinate in parts of 120. -/
def P120 (x : Rat) : Prop := ∃ k : Int, x = mkRat k 120 ∧ k.natAbs ≤ 960
end Vg.G3
namespace Vg.G3
open Go Lg Vg.Nm
set_option linter.unusedSimpArgs false
set_option linter.unusedVariables false
set_option maxRecDepth 10000
set_option maxHeartbeats 8000000
attribute [local congr] bind_congr1
-- nothing

end Vg.G3
