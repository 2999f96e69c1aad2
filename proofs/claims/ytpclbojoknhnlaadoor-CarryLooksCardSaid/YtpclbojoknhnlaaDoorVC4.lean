import Derived.Test.YtpclbojoknhnlaaDoorVS9
namespace Vg.G3
open Go Lg Vg.Nm
set_option linter.unusedSimpArgs false
set_option linter.unusedVariables false
set_option maxRecDepth 10000
set_option maxHeartbeats 8000000
attribute [local congr] bind_congr1
attribute [local go_sem] carry_ends_r0 carry_ends_r1 carry_ends_r2 carry_ends_r3 carry_ends_r3_d carry_ends_f carry_ends_v rat_Good_r0 rat_Good_r1 rat_Good_r2 rat_Good_r3 rat_Good_f rat_Good_v span_Good_r0 span_Good_r1 span_Good_f span_Good_v span_fit_r0 span_fit_r1 span_fit_r2 span_fit_r3 span_fit_f span_fit_v span_Sub_r0 span_Sub_r1 span_Sub_r1_d span_Sub_r2 span_Sub_r2_d span_Sub_f span_Sub_v rat_Neg_r0 rat_Neg_r1 rat_Neg_r2 rat_Neg_r3 rat_Neg_f rat_Neg_v turn_fit_r0 turn_fit_r1 turn_fit_r2 turn_fit_r3 turn_fit_f turn_fit_v turn_Back_r0 turn_Back_r1 turn_Back_r2 turn_Back_r3 turn_Back_f turn_Back_v carry_add_r0 carry_add_r1 carry_add_r1_d carry_add_f carry_add_v rat_Sign_r0 rat_Sign_r1 rat_Sign_r2 rat_Sign_r3 rat_Sign_r4 rat_Sign_r5 rat_Sign_r6 rat_Sign_f rat_Sign_v

/-- A value that counts as a span. -/
structure SV (v : List VV) (a b : Rat) : Prop where
  form : ∃ b1 n1 d1 b2 n2 d2, v = [.bool b1, .str n1, .str d1, .bool b2, .str n2, .str d2]
  sp : SP a b
  fit : ∀ lo h, callVL vp lo n_span_fit [.agg v] h = some (.agg (rv a ++ rv b), h)
  ends : ∀ lo h, callVL vp lo n_carry_ends [.agg v] h = some (.tup [.agg (rv a), .agg (rv b)], h)
theorem rz_sv : SV (rz ++ rz) 0 0 := by
  have hG : ∀ lo h, callVL vp lo n_rat_Good [.agg rz] h = some (.bool false, h) := fun lo h => by
    refine call_valE (fn := rat_Good_v) rfl rfl rfl rfl rfl ?_ lo h
    unfold rz
    simp -implicitDefEqProofs only [go_sem, ↓reduceIte, reduceCtorEq, Int.reduceLT, Int.reduceLE, Int.reduceToNat, Nat.reduceAdd, Nat.reduceMul, Nat.reduceLeDiff, Nat.reduceLT, Nat.reduceSub, Int.reduceNeg, Int.reduceEq, Int.reduceBEq, Int.reduceBNe, Nat.reduceEqDiff, nil_nil]
  have hS : ∀ lo h, callVL vp lo n_span_Good [.agg (rz ++ rz)] h = some (.bool false, h) := fun lo h => by
    refine call_valE (fn := span_Good_v) rfl rfl rfl rfl rfl ?_ lo h
    unfold rz at *
    simp only [List.cons_append, List.nil_append]
    simp -implicitDefEqProofs only [go_sem, ↓reduceIte, reduceCtorEq, Int.reduceLT, Int.reduceLE, Int.reduceToNat, Nat.reduceAdd, Nat.reduceMul, Nat.reduceLeDiff, Nat.reduceLT, Nat.reduceSub, Int.reduceNeg, Int.reduceEq, Int.reduceBEq, Int.reduceBNe, Nat.reduceEqDiff, hG]
  have o := Of0Q_spec
  have so := spanOf_spec SQ.zero.fq
  refine ⟨⟨_, _, _, _, _, _, rfl⟩, SP.self SQ.zero, fun lo h => ?_, fun lo h => ?_⟩
  · refine call_valE (fn := span_fit_v) rfl rfl rfl rfl rfl ?_ lo h
    obtain ⟨p1, q1, r1, e1⟩ := rvx 0
    unfold rz at *
    simp only [e1, List.cons_append, List.nil_append] at hS o so ⊢
    simp -implicitDefEqProofs only [go_sem, ↓reduceIte, reduceCtorEq, Int.reduceLT, Int.reduceLE, Int.reduceToNat, Nat.reduceAdd, Nat.reduceMul, Nat.reduceLeDiff, Nat.reduceLT, Nat.reduceSub, Int.reduceNeg, Int.reduceEq, Int.reduceBEq, Int.reduceBNe, Nat.reduceEqDiff, hS, o, so]
  · refine call_valE (fn := carry_ends_v) rfl rfl rfl rfl rfl ?_ lo h
    obtain ⟨p1, q1, r1, e1⟩ := rvx 0
    unfold rz at *
    simp only [e1, List.cons_append, List.nil_append] at hS o ⊢
    simp -implicitDefEqProofs only [go_sem, ↓reduceIte, reduceCtorEq, Int.reduceLT, Int.reduceLE, Int.reduceToNat, Nat.reduceAdd, Nat.reduceMul, Nat.reduceLeDiff, Nat.reduceLT, Nat.reduceSub, Int.reduceNeg, Int.reduceEq, Int.reduceBEq, Int.reduceBNe, Nat.reduceEqDiff, hS, o]
theorem spanSubF_spec {u : List VV} {a b c d : Rat} (g : SV u a b) (k : SP c d) (lo : Nat) (h : VHeap) : callVL vp lo n_span_Sub [.agg u, .agg (rv c ++ rv d)] h = some (.agg (rv (a - d) ++ rv (b - c)), h) := by
  have f1 := g.fit
  have f2 := spanfit_spec k
  have s1 := SubQ_spec g.sp.ga k.gb
  have s2 := SubQ_spec g.sp.gb k.ga
  obtain ⟨b1, n1, d1, b2, n2, d2, rfl⟩ := g.form
  refine call_valE (fn := span_Sub_v) rfl rfl rfl rfl rfl ?_ lo h
  obtain ⟨p1, q1, r1, e1⟩ := rvx a
  obtain ⟨p2, q2, r2, e2⟩ := rvx b
  obtain ⟨p3, q3, r3, e3⟩ := rvx c
  obtain ⟨p4, q4, r4, e4⟩ := rvx d
  obtain ⟨p5, q5, r5, e5⟩ := rvx (a - d)
  obtain ⟨p6, q6, r6, e6⟩ := rvx (b - c)
  simp only [e1, e2, e3, e4, e5, e6, List.cons_append, List.nil_append] at f1 f2 s1 s2 ⊢
  clear e1 e2 e3 e4 e5 e6
  simp -implicitDefEqProofs only [go_sem, ↓reduceIte, reduceCtorEq, Int.reduceLT, Int.reduceLE, Int.reduceToNat, Nat.reduceAdd, Nat.reduceMul, Nat.reduceLeDiff, Nat.reduceLT, Nat.reduceSub, Int.reduceNeg, Int.reduceEq, Int.reduceBEq, Int.reduceBNe, Nat.reduceEqDiff, f1, f2, s1, s2]
theorem NegF_spec {u : List VV} {q : Rat} (g : FQ u q) (lo : Nat) (h : VHeap) : callVL vp lo n_rat_Neg [.agg u] h = some (.agg (rv (-q)), h) := by
  have f := g.fit
  have e : (encB q.num.natAbs == []) = decide (q.num = 0) := by
    by_cases h0 : q.num = 0
    · rw [h0]; rw [show Int.natAbs 0 = 0 from rfl, encB_zero]; rfl
    · rw [beq_ne (fun h => (show q.num.natAbs ≠ 0 by omega) (enc_nil.1 h)), decide_eq_false h0]
  obtain ⟨b1, n1, d1, rfl⟩ := g.form
  rw [neg_rv]
  unfold rv at f
  have ez : (if decide (q.num < 0) then false else !decide (q.num = 0)) = (!decide (q.num < 0) && decide (q.num ≠ 0)) := by
    by_cases h1 : q.num < 0
    · simp [h1]
    · by_cases h2 : q.num = 0 <;> simp [h1, h2]
  rw [← ez]
  generalize encB q.num.natAbs = N at *
  generalize encB q.den = D at *
  generalize decide (q.num < 0) = B at *
  generalize decide (q.num = 0) = Z at *
  clear ez g
  refine call_valE (fn := rat_Neg_v) rfl rfl rfl rfl rfl ?_ lo h
  cases B <;> cases Z <;> simp -implicitDefEqProofs only [go_sem, ↓reduceIte, reduceCtorEq, Int.reduceLT, Int.reduceLE, Int.reduceToNat, Nat.reduceAdd, Nat.reduceMul, Nat.reduceLeDiff, Nat.reduceLT, Nat.reduceSub, Int.reduceNeg, Int.reduceEq, Int.reduceBEq, Int.reduceBNe, Nat.reduceEqDiff, f, e, Bool.not_true, Bool.not_false]
theorem turnBack_spec {u : List VV} {t : Rat} (g : FQ u t) (lo : Nat) (h : VHeap) : callVL vp lo n_turn_Back [.agg (.bool false :: u)] h = some (.agg (.bool false :: rv (-t)), h) := by
  have o := turnOf_spec g
  have n := NegF_spec g.sq.fq
  obtain ⟨b1, n1, d1, rfl⟩ := g.form
  have f : ∀ lo h, callVL vp lo n_turn_fit [.agg [.bool false, .bool b1, .str n1, .str d1]] h = some (.agg (.bool false :: rv t), h) := fun lo h => by
    refine call_valE (fn := turn_fit_v) rfl rfl rfl rfl rfl ?_ lo h
    obtain ⟨p1, q1, r1, e1⟩ := rvx t
    rw [e1] at o ⊢
    simp -implicitDefEqProofs only [go_sem, ↓reduceIte, reduceCtorEq, Int.reduceLT, Int.reduceLE, Int.reduceToNat, Nat.reduceAdd, Nat.reduceMul, Nat.reduceLeDiff, Nat.reduceLT, Nat.reduceSub, Int.reduceNeg, Int.reduceEq, Int.reduceBEq, Int.reduceBNe, Nat.reduceEqDiff, o]
  refine call_valE (fn := turn_Back_v) rfl rfl rfl rfl rfl ?_ lo h
  obtain ⟨p1, q1, r1, e1⟩ := rvx t
  obtain ⟨p2, q2, r2, e2⟩ := rvx (-t)
  rw [e1, e2] at n
  rw [e1] at f
  rw [e2]
  simp -implicitDefEqProofs only [go_sem, ↓reduceIte, reduceCtorEq, Int.reduceLT, Int.reduceLE, Int.reduceToNat, Nat.reduceAdd, Nat.reduceMul, Nat.reduceLeDiff, Nat.reduceLT, Nat.reduceSub, Int.reduceNeg, Int.reduceEq, Int.reduceBEq, Int.reduceBNe, Nat.reduceEqDiff, f, n]
theorem add_spec {t a : Rat} (gt : SQ t) (ga : SQ a) (h1 : SQ (a * t)) (lo : Nat) (h : VHeap) : callVL vp lo n_carry_add [.agg (rv t), .agg (rv a)] h = some (.tup [.agg (rv (t + a)), .agg (rv (1 - a * t))], h) := by
  refine call_valE (fn := carry_add_v) rfl rfl rfl rfl rfl ?_ lo h
  have s := AddQ_spec gt ga
  have o := Of1Q_spec
  have m := MulQ_spec ga gt
  have d := SubQ_spec SQ.one h1
  obtain ⟨p1, q1, r1, e1⟩ := rvx t
  obtain ⟨p2, q2, r2, e2⟩ := rvx a
  obtain ⟨p3, q3, r3, e3⟩ := rvx (t + a)
  obtain ⟨p4, q4, r4, e4⟩ := rvx (a * t)
  obtain ⟨p5, q5, r5, e5⟩ := rvx 1
  obtain ⟨p6, q6, r6, e6⟩ := rvx (1 - a * t)
  simp only [e1, e2, e3, e4, e5, e6] at s o m d ⊢
  clear e1 e2 e3 e4 e5 e6
  simp -implicitDefEqProofs only [go_sem, ↓reduceIte, reduceCtorEq, Int.reduceLT, Int.reduceLE, Int.reduceToNat, Nat.reduceAdd, Nat.reduceMul, Nat.reduceLeDiff, Nat.reduceLT, Nat.reduceSub, Int.reduceNeg, Int.reduceEq, Int.reduceBEq, Int.reduceBNe, Nat.reduceEqDiff, s, o, m, d]
def sgnQ (q : Rat) : Int := if q.num = 0 then 0 else if q.num < 0 then -1 else 1
theorem SignQ_spec {q : Rat} (g : SQ q) (lo : Nat) (h : VHeap) : callVL vp lo n_rat_Sign [.agg (rv q)] h = some (.int .i64 (sgnQ q), h) := by
  refine call_valE (fn := rat_Sign_v) rfl rfl rfl rfl rfl ?_ lo h
  have f := fitQ_spec g
  have e : (encB q.num.natAbs == []) = decide (q.num = 0) := by
    by_cases h0 : q.num = 0
    · rw [h0]; rw [show Int.natAbs 0 = 0 from rfl, encB_zero]; rfl
    · rw [beq_ne (fun h => (show q.num.natAbs ≠ 0 by omega) (enc_nil.1 h)), decide_eq_false h0]
  unfold sgnQ
  unfold rv at *
  generalize encB q.num.natAbs = N at *
  generalize encB q.den = D at *
  by_cases h0 : q.num = 0
  · rw [h0] at f ⊢
    rw [decide_eq_true h0] at e
    simp only [Int.lt_irrefl, decide_false, if_true] at f ⊢
    simp -implicitDefEqProofs only [go_sem, ↓reduceIte, reduceCtorEq, Int.reduceLT, Int.reduceLE, Int.reduceToNat, Nat.reduceAdd, Nat.reduceMul, Nat.reduceLeDiff, Nat.reduceLT, Nat.reduceSub, Int.reduceNeg, Int.reduceEq, Int.reduceBEq, Int.reduceBNe, Nat.reduceEqDiff, f, e]
  · rw [decide_eq_false h0] at e
    by_cases h1 : q.num < 0
    · simp only [h0, h1, decide_true, if_true, if_false] at f ⊢
      simp -implicitDefEqProofs only [go_sem, ↓reduceIte, reduceCtorEq, Int.reduceLT, Int.reduceLE, Int.reduceToNat, Nat.reduceAdd, Nat.reduceMul, Nat.reduceLeDiff, Nat.reduceLT, Nat.reduceSub, Int.reduceNeg, Int.reduceEq, Int.reduceBEq, Int.reduceBNe, Nat.reduceEqDiff, f, e]
    · simp only [h0, h1, decide_false, if_false] at f ⊢
      simp -implicitDefEqProofs only [go_sem, ↓reduceIte, reduceCtorEq, Int.reduceLT, Int.reduceLE, Int.reduceToNat, Nat.reduceAdd, Nat.reduceMul, Nat.reduceLeDiff, Nat.reduceLT, Nat.reduceSub, Int.reduceNeg, Int.reduceEq, Int.reduceBEq, Int.reduceBNe, Nat.reduceEqDiff, f, e]
theorem num_neg_iff {q : Rat} : q.num < 0 ↔ q < 0 := by rw [Rat.lt_iff]; simp
theorem num_zero_iff {q : Rat} : q.num = 0 ↔ q = 0 := ⟨fun h0 => Rat.ext h0 (by have := q.reduced; rw [h0] at this; simpa [Nat.Coprime] using this), fun h => by rw [h]; rfl⟩
theorem sgn_prod (d f : Rat) : sgnQ d * sgnQ f ≤ 0 ↔ ¬ 0 < d * f := by
  unfold sgnQ
  simp only [num_neg_iff, num_zero_iff]
  by_cases d0 : d = 0
  · subst d0; simp
  · by_cases f0 : f = 0
    · subst f0; simp
    · by_cases d1 : d < 0 <;> by_cases f1 : f < 0 <;> simp only [d0, f0, d1, f1, if_true, if_false]
      · have := Rat.mul_pos (show 0 < -d by grind) (show 0 < -f by grind)
        refine ⟨fun h => absurd h (by decide), fun h => absurd (show 0 < d * f by grind) h⟩
      · have := Rat.mul_pos (show 0 < -d by grind) (show 0 < f by grind)
        exact ⟨fun _ => by grind, fun _ => by decide⟩
      · have := Rat.mul_pos (show 0 < d by grind) (show 0 < -f by grind)
        exact ⟨fun _ => by grind, fun _ => by decide⟩
      · have := Rat.mul_pos (show 0 < d by grind) (show 0 < f by grind)
        exact ⟨fun h => absurd h (by decide), fun h => absurd this h⟩
end Vg.G3
namespace Vg.G3
open Go Lg Vg.Nm
set_option linter.unusedSimpArgs false
set_option linter.unusedVariables false
set_option maxRecDepth 10000
set_option maxHeartbeats 8000000
attribute [local congr] bind_congr1
attribute [local go_sem] carry_turned_r0 carry_turned_r1 carry_turned_r2 carry_turned_r3 carry_turned_r4 carry_turned_r4_d carry_turned_r5 carry_turned_r6 carry_turned_r7 carry_turned_r8 carry_turned_f carry_turned_v carry_rotate_r0 carry_rotate_r1 carry_rotate_r1_d carry_rotate_r2 carry_rotate_r2_d carry_rotate_f carry_rotate_v

/-- A joint value, turned further. -/
def tN (a s : Rat) : Rat := (s + a) / (1 - a * s)
def tOK (a s1 s2 : Rat) : Prop := 0 < (1 - a * s1) * (1 - a * s2)
theorem tOK_ne {a s1 s2 : Rat} (h : tOK a s1 s2) : (1 - a * s1).num ≠ 0 ∧ (1 - a * s2).num ≠ 0 := by
  unfold tOK at h
  refine ⟨fun e => ?_, fun e => ?_⟩
  · rw [num_zero_iff.1 e] at h; simp at h
  · rw [num_zero_iff.1 e] at h; simp at h
/-- What turning further asks. -/
structure TD (a s : Rat) : Prop where
  m : SQ (a * s)
  n : SQ (s + a)
  d : SQ (1 - a * s)
theorem sgn_cases (q : Rat) : sgnQ q = -1 ∨ sgnQ q = 0 ∨ sgnQ q = 1 := by
  unfold sgnQ
  by_cases h0 : q.num = 0
  · rw [if_pos h0]; exact .inr (.inl rfl)
  · rw [if_neg h0]
    by_cases h1 : q.num < 0
    · rw [if_pos h1]; exact .inl rfl
    · rw [if_neg h1]; exact .inr (.inr rfl)
open Classical in
theorem turned_spec {u : List VV} {s1 s2 a : Rat} (gu : SV u s1 s2) (ga : SQ a) (h1 : TD a s1) (h2 : TD a s2) (lo : Nat) (h : VHeap) : callVL vp lo n_carry_turned [.agg u, .agg (rv a)] h = some (.tup [.agg (if tOK a s1 s2 then rv (tN a s1) ++ rv (tN a s2) else rz ++ rz), .int .i64 (if tOK a s1 s2 then 0 else 18)], h) := by
  have e := gu.ends
  have x1 := add_spec gu.sp.ga ga h1.m
  have x2 := add_spec gu.sp.gb ga h2.m
  have g1 := SignQ_spec h1.d
  have g2 := SignQ_spec h2.d
  have hp := sgn_prod (1 - a * s1) (1 - a * s2)
  have hw : IntKind.i64.wrap (sgnQ (1 - a * s1) * sgnQ (1 - a * s2)) = sgnQ (1 - a * s1) * sgnQ (1 - a * s2) := by
    rcases sgn_cases (1 - a * s1) with h | h | h <;> rcases sgn_cases (1 - a * s2) with h' | h' | h' <;> rw [h, h'] <;> decide
  obtain ⟨c1, c2, c3, c4, c5, c6, rfl⟩ := gu.form
  refine call_valE (fn := carry_turned_v) rfl rfl rfl rfl rfl ?_ lo h
  by_cases hc : tOK a s1 s2
  · have hs : ¬ sgnQ (1 - a * s1) * sgnQ (1 - a * s2) ≤ 0 := fun h => hp.1 h hc
    have d1 := DivQ_spec h1.n h1.d (tOK_ne hc).1
    have d2 := DivQ_spec h2.n h2.d (tOK_ne hc).2
    rw [if_pos hc, if_pos hc]
    rw [show (s1 + a) / (1 - a * s1) = tN a s1 from rfl] at d1
    rw [show (s2 + a) / (1 - a * s2) = tN a s2 from rfl] at d2
    clear hp gu
    generalize sgnQ (1 - a * s1) = Z1 at *
    generalize sgnQ (1 - a * s2) = Z2 at *
    generalize tN a s1 = N1 at *
    generalize tN a s2 = N2 at *
    generalize s1 + a = A1 at *
    generalize s2 + a = A2 at *
    obtain ⟨p1, q1, r1, e1⟩ := rvx s1
    obtain ⟨p2, q2, r2, e2⟩ := rvx s2
    obtain ⟨p3, q3, r3, e3⟩ := rvx a
    obtain ⟨p4, q4, r4, e4⟩ := rvx A1
    obtain ⟨p5, q5, r5, e5⟩ := rvx A2
    obtain ⟨p6, q6, r6, e6⟩ := rvx (1 - a * s1)
    obtain ⟨p7, q7, r7, e7⟩ := rvx (1 - a * s2)
    obtain ⟨p8, q8, r8, e8⟩ := rvx N1
    obtain ⟨p9, q9, r9, e9⟩ := rvx N2
    simp only [e1, e2, e3, e4, e5, e6, e7, e8, e9, List.cons_append, List.nil_append] at e x1 x2 g1 g2 d1 d2 ⊢
    clear e1 e2 e3 e4 e5 e6 e7 e8 e9
    simp -implicitDefEqProofs only [go_sem, ↓reduceIte, reduceCtorEq, Int.reduceLT, Int.reduceLE, Int.reduceToNat, Nat.reduceAdd, Nat.reduceMul, Nat.reduceLeDiff, Nat.reduceLT, Nat.reduceSub, Int.reduceNeg, Int.reduceEq, Int.reduceBEq, Int.reduceBNe, Nat.reduceEqDiff, e, x1, x2, g1, g2, hw, hs, d1, d2]
  · have hs : sgnQ (1 - a * s1) * sgnQ (1 - a * s2) ≤ 0 := hp.2 hc
    rw [if_neg hc, if_neg hc]
    clear hp gu
    generalize sgnQ (1 - a * s1) = Z1 at *
    generalize sgnQ (1 - a * s2) = Z2 at *
    generalize s1 + a = A1 at *
    generalize s2 + a = A2 at *
    unfold rz
    obtain ⟨p1, q1, r1, e1⟩ := rvx s1
    obtain ⟨p2, q2, r2, e2⟩ := rvx s2
    obtain ⟨p3, q3, r3, e3⟩ := rvx a
    obtain ⟨p4, q4, r4, e4⟩ := rvx A1
    obtain ⟨p5, q5, r5, e5⟩ := rvx A2
    obtain ⟨p6, q6, r6, e6⟩ := rvx (1 - a * s1)
    obtain ⟨p7, q7, r7, e7⟩ := rvx (1 - a * s2)
    simp only [e1, e2, e3, e4, e5, e6, e7, List.cons_append, List.nil_append] at e x1 x2 g1 g2 ⊢
    clear e1 e2 e3 e4 e5 e6 e7
    simp -implicitDefEqProofs only [go_sem, ↓reduceIte, reduceCtorEq, Int.reduceLT, Int.reduceLE, Int.reduceToNat, Nat.reduceAdd, Nat.reduceMul, Nat.reduceLeDiff, Nat.reduceLT, Nat.reduceSub, Int.reduceNeg, Int.reduceEq, Int.reduceBEq, Int.reduceBNe, Nat.reduceEqDiff, e, x1, x2, g1, g2, hw, hs]
/-- What turning a box asks. -/
structure RT (a b c d t : Rat) : Prop where
  x : SP a b
  y : SP c d
  gt : TQ t
  gc : SQ (cosF (t * t))
  gs : SQ (sinF t)
  h1 : SQ (cosF (t * t) * a)
  h2 : SQ (cosF (t * t) * b)
  h3 : SQ (sinF t * c)
  h4 : SQ (sinF t * d)
  h5 : SQ (sinF t * a)
  h6 : SQ (sinF t * b)
  h7 : SQ (cosF (t * t) * c)
  h8 : SQ (cosF (t * t) * d)
def rM1 (k a b : Rat) : Rat := mul1 k k a b
def rM2 (k a b : Rat) : Rat := mul2 k k a b
def rX1 (a b c d t : Rat) : Rat := rM1 (cosF (t * t)) a b - rM2 (sinF t) c d
def rX2 (a b c d t : Rat) : Rat := rM2 (cosF (t * t)) a b - rM1 (sinF t) c d
def rY1 (a b c d t : Rat) : Rat := rM1 (sinF t) a b + rM1 (cosF (t * t)) c d
def rY2 (a b c d t : Rat) : Rat := rM2 (sinF t) a b + rM2 (cosF (t * t)) c d
theorem rotate_spec {a b c d t : Rat} (g : RT a b c d t) (lo : Nat) (h : VHeap) : callVL vp lo n_carry_rotate [.agg (rv a ++ rv b), .agg (rv c ++ rv d), .agg (.bool false :: rv t)] h = some (.tup [.agg (rv (rX1 a b c d t) ++ rv (rX2 a b c d t)), .agg (rv (rY1 a b c d t) ++ rv (rY2 a b c d t))], h) := by
  have k1 := Cos_spec g.gt
  have k2 := Sin_spec g.gt
  have o1 := spanOf_spec g.gc.fq
  have o2 := spanOf_spec g.gs.fq
  have m1 := spanMul_spec (SP.self g.gc) g.x g.h1 g.h2 g.h1 g.h2
  have m2 := spanMul_spec (SP.self g.gs) g.y g.h3 g.h4 g.h3 g.h4
  have m3 := spanMul_spec (SP.self g.gs) g.x g.h5 g.h6 g.h5 g.h6
  have m4 := spanMul_spec (SP.self g.gc) g.y g.h7 g.h8 g.h7 g.h8
  have d1 := spanSub_spec (mul_sp g.h1 g.h2 g.h1 g.h2) (mul_sp g.h3 g.h4 g.h3 g.h4)
  have d2 := spanAdd_spec (mul_sp g.h5 g.h6 g.h5 g.h6) (mul_sp g.h7 g.h8 g.h7 g.h8)
  unfold rX1 rX2 rY1 rY2 rM1 rM2
  clear g
  generalize cosF (t * t) = C at *
  generalize sinF t = S at *
  generalize mul1 C C a b - mul2 S S c d = D1 at *
  generalize mul2 C C a b - mul1 S S c d = D2 at *
  generalize mul1 S S a b + mul1 C C c d = D3 at *
  generalize mul2 S S a b + mul2 C C c d = D4 at *
  generalize mul1 C C a b = M1 at *
  generalize mul2 C C a b = M2 at *
  generalize mul1 S S c d = M3 at *
  generalize mul2 S S c d = M4 at *
  generalize mul1 S S a b = M5 at *
  generalize mul2 S S a b = M6 at *
  generalize mul1 C C c d = M7 at *
  generalize mul2 C C c d = M8 at *
  refine call_valE (fn := carry_rotate_v) rfl rfl rfl rfl rfl ?_ lo h
  obtain ⟨b0', x0', y0', h0'⟩ := rvx a
  obtain ⟨b1', x1', y1', h1'⟩ := rvx b
  obtain ⟨b2', x2', y2', h2'⟩ := rvx c
  obtain ⟨b3', x3', y3', h3'⟩ := rvx d
  obtain ⟨b4', x4', y4', h4'⟩ := rvx t
  obtain ⟨b5', x5', y5', h5'⟩ := rvx C
  obtain ⟨b6', x6', y6', h6'⟩ := rvx S
  obtain ⟨b7', x7', y7', h7'⟩ := rvx D1
  obtain ⟨b8', x8', y8', h8'⟩ := rvx D2
  obtain ⟨b9', x9', y9', h9'⟩ := rvx D3
  obtain ⟨b10', x10', y10', h10'⟩ := rvx D4
  obtain ⟨b11', x11', y11', h11'⟩ := rvx M1
  obtain ⟨b12', x12', y12', h12'⟩ := rvx M2
  obtain ⟨b13', x13', y13', h13'⟩ := rvx M3
  obtain ⟨b14', x14', y14', h14'⟩ := rvx M4
  obtain ⟨b15', x15', y15', h15'⟩ := rvx M5
  obtain ⟨b16', x16', y16', h16'⟩ := rvx M6
  obtain ⟨b17', x17', y17', h17'⟩ := rvx M7
  obtain ⟨b18', x18', y18', h18'⟩ := rvx M8
  simp only [h0', h1', h2', h3', h4', h5', h6', h7', h8', h9', h10', h11', h12', h13', h14', h15', h16', h17', h18', List.cons_append, List.nil_append] at k1 k2 o1 o2 m1 m2 m3 m4 d1 d2 ⊢
  clear h0' h1' h2' h3' h4' h5' h6' h7' h8' h9' h10' h11' h12' h13' h14' h15' h16' h17' h18'
  simp -implicitDefEqProofs only [go_sem, ↓reduceIte, reduceCtorEq, Int.reduceLT, Int.reduceLE, Int.reduceToNat, Nat.reduceAdd, Nat.reduceMul, Nat.reduceLeDiff, Nat.reduceLT, Nat.reduceSub, Int.reduceNeg, Int.reduceEq, Int.reduceBEq, Int.reduceBNe, Nat.reduceEqDiff, k1, k2, o1, o2, m1, m2, m3, m4, d1, d2]
end Vg.G3
namespace Vg.G3
open Go Lg Vg.Nm
set_option linter.unusedSimpArgs false
set_option linter.unusedVariables false
set_option maxRecDepth 10000
set_option maxHeartbeats 8000000
attribute [local congr] bind_congr1
attribute [local go_sem] carry_Grip_r0 carry_Grip_r1 carry_Grip_r2 carry_Grip_r3 carry_Grip_r3_d carry_Grip_r4 carry_Grip_r5 carry_Grip_r6 carry_Grip_r6_d carry_Grip_r7 carry_Grip_f carry_Grip_v

def Po.grip (p : Po) (gx gy gt : Rat) : Po := ⟨rX1 (p.x1 - gx) (p.x2 - gx) (p.y1 - gy) (p.y2 - gy) (-gt), rX2 (p.x1 - gx) (p.x2 - gx) (p.y1 - gy) (p.y2 - gy) (-gt), rY1 (p.x1 - gx) (p.x2 - gx) (p.y1 - gy) (p.y2 - gy) (-gt), rY2 (p.x1 - gx) (p.x2 - gx) (p.y1 - gy) (p.y2 - gy) (-gt), tN (-gt) p.t1, tN (-gt) p.t2⟩
open Classical in
theorem Grip_spec {X Y T ux uy ut : List VV} {p : Po} {gx gy gt : Rat} (vX : SV X p.x1 p.x2) (vY : SV Y p.y1 p.y2) (vT : SV T p.t1 p.t2) (fx : FQ ux gx) (fy : FQ uy gy) (ft : FQ ut gt) (h1 : TD (-gt) p.t1) (h2 : TD (-gt) p.t2) (r : RT (p.x1 - gx) (p.x2 - gx) (p.y1 - gy) (p.y2 - gy) (-gt)) (lo : Nat) (h : VHeap) :
    callVL vp lo n_carry_Grip [.agg (X ++ (Y ++ T)), .agg (frv ux uy ut)] h = some (.tup [.agg (if tOK (-gt) p.t1 p.t2 then (p.grip gx gy gt).v else Po.nz), .int .i64 (if tOK (-gt) p.t1 p.t2 then 0 else 18)], h) := by
  have n := NegF_spec ft
  have t := turned_spec vT ft.sq.neg h1 h2
  have o1 := spanOf_spec fx
  have o2 := spanOf_spec fy
  have s1 := spanSubF_spec vX (SP.self fx.sq)
  have s2 := spanSubF_spec vY (SP.self fy.sq)
  have b := turnBack_spec ft
  have rr := rotate_spec r
  obtain ⟨a1, a2, a3, a4, a5, a6, rfl⟩ := vX.form
  obtain ⟨b1, b2, b3, b4, b5, b6, rfl⟩ := vY.form
  obtain ⟨c1, c2, c3, c4, c5, c6, rfl⟩ := vT.form
  obtain ⟨d1, d2, d3, rfl⟩ := fx.form
  obtain ⟨d4, d5, d6, rfl⟩ := fy.form
  obtain ⟨d7, d8, d9, rfl⟩ := ft.form
  unfold Po.v Po.grip frv Po.nz
  clear vX vY vT fx fy ft h1 h2 r
  refine call_valE (fn := carry_Grip_v) rfl rfl rfl rfl rfl ?_ lo h
  generalize tN (-gt) p.t1 = N1 at *
  generalize tN (-gt) p.t2 = N2 at *
  generalize rX1 (p.x1 - gx) (p.x2 - gx) (p.y1 - gy) (p.y2 - gy) (-gt) = R1 at *
  generalize rX2 (p.x1 - gx) (p.x2 - gx) (p.y1 - gy) (p.y2 - gy) (-gt) = R2 at *
  generalize rY1 (p.x1 - gx) (p.x2 - gx) (p.y1 - gy) (p.y2 - gy) (-gt) = R3 at *
  generalize rY2 (p.x1 - gx) (p.x2 - gx) (p.y1 - gy) (p.y2 - gy) (-gt) = R4 at *
  obtain ⟨e1, f1, g1, h1'⟩ := rvx gx
  obtain ⟨e2, f2, g2, h2'⟩ := rvx gy
  obtain ⟨e3, f3, g3, h3'⟩ := rvx (-gt)
  obtain ⟨e4, f4, g4, h4'⟩ := rvx (p.x1 - gx)
  obtain ⟨e5, f5, g5, h5'⟩ := rvx (p.x2 - gx)
  obtain ⟨e6, f6, g6, h6'⟩ := rvx (p.y1 - gy)
  obtain ⟨e7, f7, g7, h7'⟩ := rvx (p.y2 - gy)
  obtain ⟨e8, f8, g8, h8'⟩ := rvx N1
  obtain ⟨e9, f9, g9, h9'⟩ := rvx N2
  obtain ⟨e10, f10, g10, h10'⟩ := rvx R1
  obtain ⟨e11, f11, g11, h11'⟩ := rvx R2
  obtain ⟨e12, f12, g12, h12'⟩ := rvx R3
  obtain ⟨e13, f13, g13, h13'⟩ := rvx R4
  unfold rz at *
  by_cases hc : tOK (-gt) p.t1 p.t2
  · simp only [if_pos hc] at t ⊢
    simp only [h1', h2', h3', h4', h5', h6', h7', h8', h9', h10', h11', h12', h13', List.cons_append, List.nil_append] at n t o1 o2 s1 s2 b rr ⊢
    clear h1' h2' h3' h4' h5' h6' h7' h8' h9' h10' h11' h12' h13'
    simp -implicitDefEqProofs only [go_sem, ↓reduceIte, reduceCtorEq, Int.reduceLT, Int.reduceLE, Int.reduceToNat, Nat.reduceAdd, Nat.reduceMul, Nat.reduceLeDiff, Nat.reduceLT, Nat.reduceSub, Int.reduceNeg, Int.reduceEq, Int.reduceBEq, Int.reduceBNe, Nat.reduceEqDiff, n, t, o1, o2, s1, s2, b, rr]
  · simp only [if_neg hc] at t ⊢
    simp only [h1', h2', h3', h4', h5', h6', h7', h8', h9', h10', h11', h12', h13', List.cons_append, List.nil_append] at n t ⊢
    clear h1' h2' h3' h4' h5' h6' h7' h8' h9' h10' h11' h12' h13'
    simp -implicitDefEqProofs only [go_sem, ↓reduceIte, reduceCtorEq, Int.reduceLT, Int.reduceLE, Int.reduceToNat, Nat.reduceAdd, Nat.reduceMul, Nat.reduceLeDiff, Nat.reduceLT, Nat.reduceSub, Int.reduceNeg, Int.reduceEq, Int.reduceBEq, Int.reduceBNe, Nat.reduceEqDiff, n, t]
def Po.put (p : Po) (gx gy gt : Rat) : Po := ⟨rX1 p.x1 p.x2 p.y1 p.y2 gt + gx, rX2 p.x1 p.x2 p.y1 p.y2 gt + gx, rY1 p.x1 p.x2 p.y1 p.y2 gt + gy, rY2 p.x1 p.x2 p.y1 p.y2 gt + gy, tN gt p.t1, tN gt p.t2⟩
end Vg.G3
namespace Vg.G3
open Go Lg Vg.Nm
set_option linter.unusedSimpArgs false
set_option linter.unusedVariables false
set_option maxRecDepth 10000
set_option maxHeartbeats 8000000
attribute [local congr] bind_congr1
attribute [local go_sem] rat_Of_r0 rat_Of_r1 rat_Of_r2 rat_Of_r3 rat_Of_f rat_Of_v gantkeep4_carried_r0 gantkeep4_carried_r1 gantkeep4_carried_r2 gantkeep4_carried_r2_d gantkeep4_carried_f gantkeep4_carried_v gantkeep4_Frame_r0 gantkeep4_Frame_r1 gantkeep4_Frame_r2 gantkeep4_Frame_f gantkeep4_Frame_v

theorem Ofm2_spec (lo : Nat) (h : VHeap) : callVL vp lo n_rat_Of [.int .i64 (-2)] h = some (.agg (rv (-2)), h) := by
  refine call_valE (fn := rat_Of_v) rfl rfl rfl rfl rfl ?_ lo h
  have h1 := natOf_spec 1 (by decide)
  have h2 := AddS_spec 1 1 (by decide) (by decide)
  have hM := made_spec true 2 1 (by decide) (by decide) (by decide)
  have e : mkRat (sgn true 2) 1 = (-2 : Rat) := by decide
  rw [e] at hM
  rw [show ((1 : Nat) : Int) = 1 from rfl] at h1
  rw [show 1 + 1 = 2 from rfl] at h2
  rw [enc_one] at h1 h2 hM
  have w1 : IntKind.i64.wrap (-2 + 1) = -1 := by decide
  have w2 : IntKind.i64.wrap (0 - -1) = 1 := by decide
  obtain ⟨b1, x1, y1, e1⟩ := rvx (-2 : Rat)
  rw [e1] at hM ⊢
  generalize encB 2 = Z at *
  simp -implicitDefEqProofs only [go_sem, ↓reduceIte, reduceCtorEq, Int.reduceLT, Int.reduceLE, Int.reduceToNat, Nat.reduceAdd, Nat.reduceMul, Nat.reduceLeDiff, Nat.reduceLT, Nat.reduceSub, Int.reduceNeg, Int.reduceEq, Int.reduceBEq, Int.reduceBNe, Nat.reduceEqDiff, w1, w2, h1, h2, hM]
theorem carried_spec (lo : Nat) (h : VHeap) : callVL vp lo n_gantkeep4_carried [] h = some (.bool true, h) := by
  have g2 : SQ ((2 : Nat) : Rat) := SQ.nat (by decide)
  have o2 := OfQ_spec (n := 2) (by decide)
  rw [show ((2 : Nat) : Int) = 2 from rfl] at o2
  have hG := Grip_spec (p := ⟨0, 0, 0, 0, 0, 0⟩) (gx := ((2 : Nat) : Rat)) (gy := 0) (gt := 0) rz_sv rz_sv rz_sv g2.fq rz_fq rz_fq
    ⟨⟨by decide +kernel, by decide +kernel⟩, ⟨by decide +kernel, by decide +kernel⟩, ⟨by decide +kernel, by decide +kernel⟩⟩ ⟨⟨by decide +kernel, by decide +kernel⟩, ⟨by decide +kernel, by decide +kernel⟩, ⟨by decide +kernel, by decide +kernel⟩⟩
    ⟨⟨⟨by decide +kernel, by decide +kernel⟩, ⟨by decide +kernel, by decide +kernel⟩, by decide +kernel⟩, ⟨⟨by decide +kernel, by decide +kernel⟩, ⟨by decide +kernel, by decide +kernel⟩, by decide +kernel⟩, ⟨⟨by decide +kernel, by decide +kernel⟩, ⟨by decide +kernel, by decide +kernel⟩, ⟨by decide +kernel, by decide +kernel⟩, ⟨by decide +kernel, by decide +kernel⟩, ⟨by decide +kernel, by decide +kernel⟩⟩,
     ⟨by decide +kernel, by decide +kernel⟩, ⟨by decide +kernel, by decide +kernel⟩, ⟨by decide +kernel, by decide +kernel⟩, ⟨by decide +kernel, by decide +kernel⟩, ⟨by decide +kernel, by decide +kernel⟩, ⟨by decide +kernel, by decide +kernel⟩, ⟨by decide +kernel, by decide +kernel⟩, ⟨by decide +kernel, by decide +kernel⟩, ⟨by decide +kernel, by decide +kernel⟩, ⟨by decide +kernel, by decide +kernel⟩⟩
  have hok : tOK (-0) (Po.mk 0 0 0 0 0 0).t1 (Po.mk 0 0 0 0 0 0).t2 := by unfold tOK; decide +kernel
  simp only [if_pos hok] at hG
  have om := Ofm2_spec
  have hX : ((Po.mk 0 0 0 0 0 0).grip ((2 : Nat) : Rat) 0 0).x1 = -2 := by decide +kernel
  have gm : SQ (-2) := ⟨by decide +kernel, by decide +kernel⟩
  have c := CmpQ_spec gm gm
  have ce : cmpQ (-2) (-2) = 0 := by decide +kernel
  rw [ce] at c
  unfold Po.v at hG
  rw [hX] at hG
  generalize ((Po.mk 0 0 0 0 0 0).grip ((2 : Nat) : Rat) 0 0).x2 = P2 at *
  generalize ((Po.mk 0 0 0 0 0 0).grip ((2 : Nat) : Rat) 0 0).y1 = P3 at *
  generalize ((Po.mk 0 0 0 0 0 0).grip ((2 : Nat) : Rat) 0 0).y2 = P4 at *
  generalize ((Po.mk 0 0 0 0 0 0).grip ((2 : Nat) : Rat) 0 0).t1 = P5 at *
  generalize ((Po.mk 0 0 0 0 0 0).grip ((2 : Nat) : Rat) 0 0).t2 = P6 at *
  refine call_valE (fn := gantkeep4_carried_v) rfl rfl rfl rfl rfl ?_ lo h
  obtain ⟨a1, a2, a3, e1⟩ := rvx (-2 : Rat)
  obtain ⟨b1, b2, b3, e2⟩ := rvx P2
  obtain ⟨c1, c2, c3, e3⟩ := rvx P3
  obtain ⟨d1, d2, d3, e4⟩ := rvx P4
  obtain ⟨f1, f2, f3, e5⟩ := rvx P5
  obtain ⟨g1, g2', g3, e6⟩ := rvx P6
  obtain ⟨h1, h2, h3, e7⟩ := rvx ((2 : Nat) : Rat)
  unfold frv rz at hG
  simp only [e1, e2, e3, e4, e5, e6, e7, List.cons_append, List.nil_append] at hG o2 om c
  clear e1 e2 e3 e4 e5 e6 e7
  simp -implicitDefEqProofs only [go_sem, ↓reduceIte, reduceCtorEq, Int.reduceLT, Int.reduceLE, Int.reduceToNat, Nat.reduceAdd, Nat.reduceMul, Nat.reduceLeDiff, Nat.reduceLT, Nat.reduceSub, Int.reduceNeg, Int.reduceEq, Int.reduceBEq, Int.reduceBNe, Nat.reduceEqDiff, o2, om, hG, c]
/-- A frame of the generator. -/
theorem Frame_spec (l : List Int) : ∃ gx gy gt : Int, -16 ≤ gx ∧ gx ≤ 16 ∧ -16 ≤ gy ∧ gy ≤ 16 ∧ -4 ≤ gt ∧ gt ≤ 4 ∧ ∀ lo h, callVL vp lo n_gantkeep4_Frame [.list .s (l.map fun x => [.int .i64 x])] h = some (.agg (frv (rv (mkRat gx 2)) (rv (mkRat gy 2)) (rv (mkRat gt 4))), h) := by
  have n1 : ∀ (lo : Nat) (a : VBlk) (t : VHeap), lo = 0 → callVL vp lo n_gantmake_Stream_Next [.ptr 1 0, .int .i64 33] (a :: strm l :: t) = some (.int .i64 (nxt l 33).1, a :: strm (nxt l 33).2 :: t) := fun lo a t h => next_at1 (by omega) a t _ _
  have b1 := nxt_bnd l 33 (by decide) (by decide)
  generalize (nxt l 33).1 = u at *
  generalize (nxt l 33).2 = l1 at *
  have n2 : ∀ (lo : Nat) (a : VBlk) (t : VHeap), lo = 0 → callVL vp lo n_gantmake_Stream_Next [.ptr 1 0, .int .i64 33] (a :: strm l1 :: t) = some (.int .i64 (nxt l1 33).1, a :: strm (nxt l1 33).2 :: t) := fun lo a t h => next_at1 (by omega) a t _ _
  have b2 := nxt_bnd l1 33 (by decide) (by decide)
  generalize (nxt l1 33).1 = v at *
  generalize (nxt l1 33).2 = l2 at *
  have n3 : ∀ (lo : Nat) (a : VBlk) (t : VHeap), lo = 0 → callVL vp lo n_gantmake_Stream_Next [.ptr 1 0, .int .i64 9] (a :: strm l2 :: t) = some (.int .i64 (nxt l2 9).1, a :: strm (nxt l2 9).2 :: t) := fun lo a t h => next_at1 (by omega) a t _ _
  have b3 := nxt_bnd l2 9 (by decide) (by decide)
  generalize (nxt l2 9).1 = w at *
  generalize (nxt l2 9).2 = l3 at *
  have w1 : IntKind.i64.wrap (u - 16) = u - 16 := wrap_id (by omega) (by omega)
  have w2 : IntKind.i64.wrap (v - 16) = v - 16 := wrap_id (by omega) (by omega)
  have w3 : IntKind.i64.wrap (w - 4) = w - 4 := wrap_id (by omega) (by omega)
  have o1 := OfM_spec (k := u - 16) (d := 2) (by omega) (by decide) (by decide)
  have o2 := OfM_spec (k := v - 16) (d := 2) (by omega) (by decide) (by decide)
  have o3 := OfM_spec (k := w - 4) (d := 4) (by omega) (by decide) (by decide)
  rw [show ((2 : Nat) : Int) = 2 from rfl] at o1 o2
  rw [show ((4 : Nat) : Int) = 4 from rfl] at o3
  refine ⟨u - 16, v - 16, w - 4, by omega, by omega, by omega, by omega, by omega, by omega, fun lo h => ?_⟩
  refine call_valE (fn := gantkeep4_Frame_v) rfl rfl rfl rfl rfl ?_ lo h
  unfold frv
  obtain ⟨a1, a2, a3, e1⟩ := rvx (mkRat (u - 16) 2)
  obtain ⟨c1, c2, c3, e2⟩ := rvx (mkRat (v - 16) 2)
  obtain ⟨d1, d2, d3, e3⟩ := rvx (mkRat (w - 4) 4)
  simp only [e1, e2, e3, List.cons_append, List.nil_append] at o1 o2 o3 ⊢
  clear e1 e2 e3
  simp only [strm, ints] at n1 n2 n3
  simp -implicitDefEqProofs only [go_sem, ↓reduceIte, reduceCtorEq, Int.reduceLT, Int.reduceLE, Int.reduceToNat, Nat.reduceAdd, Nat.reduceMul, Nat.reduceLeDiff, Nat.reduceLT, Nat.reduceSub, Int.reduceNeg, Int.reduceEq, Int.reduceBEq, Int.reduceBNe, Nat.reduceEqDiff, n1, n2, n3, w1, w2, w3, o1, o2, o3]
end Vg.G3
