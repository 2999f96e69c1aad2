import Derived.Test.YtpclbojoknhnlaaDoorVC8
namespace Vg.G3
open Go Lg Vg.Nm
set_option linter.unusedSimpArgs false
set_option linter.unusedVariables false
set_option maxRecDepth 10000
set_option maxHeartbeats 4000000
attribute [local congr] bind_congr1
-- nothing

end Vg.G3
namespace Vg.G3
open Go Lg Vg.Nm
set_option linter.unusedSimpArgs false
set_option linter.unusedVariables false
set_option maxRecDepth 10000
set_option maxHeartbeats 4000000
attribute [local congr] bind_congr1

theorem mk_nn {n : Int} (h : 0 ≤ n) {d : Nat} (hd : d ≠ 0) : 0 ≤ mkRat n d := by
  have := mk_le hd h
  rwa [mk_zero] at this
theorem QX.half {N A : Nat} {q : Rat} (h : QX N A q) (h0 : N ≠ 0) {n : Int} (hn : n.natAbs ≤ 16) : QX (2 * N) (A + 5000) (q + mkRat n 8) := by
  obtain ⟨k, rfl, hk⟩ := h
  refine ⟨k * (2 : Nat) + n * (N : Nat), ?_, ?_⟩
  · rw [mk_scale (a := k) (D := 4 * N) (E := 2) (by omega) (by decide), mk_scale (a := n) (D := 8) (E := N) (by decide) h0, show 4 * N * 2 = 4 * (2 * N) by omega, show 8 * N = 4 * (2 * N) by omega, mk_add (by omega)]
  · have a3 := Int.natAbs_add_le (k * (2 : Nat)) (n * (N : Nat))
    rw [Int.natAbs_mul, Int.natAbs_mul, Int.natAbs_natCast, Int.natAbs_natCast] at a3
    have a4 := Nat.mul_le_mul_right N hn
    rw [Nat.add_mul, Nat.mul_left_comm A 2 N]
    omega
theorem PO.wide {N A B : Nat} {p : Po} (po : PO N A B p) {n : Int} (h0 : 0 ≤ n) (hn : n ≤ 16) : PO (2 * N) (A + 5000) B (p.wide (mkRat n 8) 0) := by
  have e : ∀ q : Rat, q - mkRat n 8 = q + mkRat (-n) 8 := fun q => by rw [Rat.sub_eq_add_neg, neg_mkRat]
  have hp : 0 ≤ mkRat n 8 := mk_nn h0 (by decide)
  have b := po.bx
  have x := b.sx
  have y := b.sy
  refine ⟨⟨by have := b.n0; omega, ?_, b.qb.half b.n0 (by omega), ?_, b.qd.half b.n0 (by omega), ?_, ?_⟩, ?_, ?_, ?_⟩
  · show QX _ _ (p.x1 - mkRat n 8)
    rw [e]; exact b.qa.half b.n0 (by omega)
  · show QX _ _ (p.y1 - mkRat n 8)
    rw [e]; exact b.qc.half b.n0 (by omega)
  · show p.x1 - mkRat n 8 ≤ p.x2 + mkRat n 8
    grind
  · show p.y1 - mkRat n 8 ≤ p.y2 + mkRat n 8
    grind
  · show TS B (p.t1 - 0)
    rw [show p.t1 - 0 = p.t1 by grind]; exact po.ta
  · show TS B (p.t2 + 0)
    rw [Rat.add_zero]; exact po.tb
  · show p.t1 - 0 ≤ p.t2 + 0
    rw [show p.t1 - 0 = p.t1 by grind, Rat.add_zero]; exact po.le
end Vg.G3
namespace Vg.G3
open Go Lg Vg.Nm
set_option linter.unusedSimpArgs false
set_option linter.unusedVariables false
set_option maxRecDepth 10000
set_option maxHeartbeats 8000000
attribute [local congr] bind_congr1
attribute [local go_sem] rat_Div_r0 rat_Div_r1 rat_Div_r1_d rat_Div_r2 rat_Div_r3 rat_Div_r4 rat_Div_r4_d rat_Div_f rat_Div_v turn_halfTurn_r0 turn_halfTurn_r1 turn_halfTurn_f turn_halfTurn_v turn_Then_r0 turn_Then_r1 turn_Then_r1_d turn_Then_r2 turn_Then_r3 turn_Then_r4 turn_Then_r5 turn_Then_r6 turn_Then_r7 turn_Then_r8 turn_Then_r8_d turn_Then_r9 turn_Then_r10 turn_Then_r11 turn_Then_f turn_Then_v vec_Sub_r0 vec_Sub_r1 vec_Sub_r1_d vec_Sub_f vec_Sub_v frame_Zero_r0 frame_Zero_r1 frame_Zero_r2 frame_Zero_r2_d frame_Zero_f frame_Zero_v frame_Back_r0 frame_Back_r1 frame_Back_r2 frame_Back_r2_d frame_Back_f frame_Back_v frame_Then_r0 frame_Then_r1 frame_Then_r1_d frame_Then_f frame_Then_v carry_Grasp_r0 carry_Grasp_r1 carry_Grasp_r2 carry_Grasp_r3 carry_Grasp_r4 carry_Grasp_r5 carry_Grasp_r6 carry_Grasp_r7 carry_Grasp_f carry_Grasp_v

theorem DivQ0_spec {p : Rat} (gp : SQ p) (lo : Nat) (h : VHeap) : callVL vp lo n_rat_Div [.agg (rv p), .agg (rv 0)] h = some (.tup [.agg rz, .int .i64 12], h) := by
  refine call_valE (fn := rat_Div_v) rfl rfl rfl rfl rfl ?_ lo h
  have f1 := fitQ_spec gp
  have f2 := fitQ_spec SQ.zero
  have e0 : rv 0 = [.bool false, .str [], .str (encB 1)] := by
    unfold rv
    rw [show (0 : Rat).num = 0 from rfl, show (0 : Rat).den = 1 from rfl, show Int.natAbs 0 = 0 from rfl, encB_zero]
    rfl
  obtain ⟨b1, x1, y1, e1⟩ := rvx p
  unfold rz
  generalize encB 1 = O at *
  simp only [e0, e1] at f1 f2 ⊢
  clear e0 e1
  simp -implicitDefEqProofs only [go_sem, ↓reduceIte, reduceCtorEq, Int.reduceLT, Int.reduceLE, Int.reduceToNat, Nat.reduceAdd, Nat.reduceMul, Nat.reduceLeDiff, Nat.reduceLT, Nat.reduceSub, Int.reduceNeg, Int.reduceEq, Int.reduceBEq, Int.reduceBNe, Nat.reduceEqDiff, f1, f2, nil_nil]
theorem halfTurn_spec (lo : Nat) (h : VHeap) : callVL vp lo n_turn_halfTurn [] h = some (.agg (.bool true :: rv 0), h) := by
  refine call_valE (fn := turn_halfTurn_v) rfl rfl rfl rfl rfl ?_ lo h
  have o := Of0Q_spec
  obtain ⟨b1, x1, y1, e1⟩ := rvx (0 : Rat)
  simp only [e1] at o ⊢
  clear e1
  simp -implicitDefEqProofs only [go_sem, ↓reduceIte, reduceCtorEq, Int.reduceLT, Int.reduceLE, Int.reduceToNat, Nat.reduceAdd, Nat.reduceMul, Nat.reduceLeDiff, Nat.reduceLT, Nat.reduceSub, Int.reduceNeg, Int.reduceEq, Int.reduceBEq, Int.reduceBNe, Nat.reduceEqDiff, o]
/-- One turn after another. -/
def thenT (a b : Rat) : List VV := if 1 - a * b = 0 then .bool true :: rv 0 else .bool false :: rv (tN a b)
theorem turnThen_spec {a b : Rat} (ga : SQ a) (gb : SQ b) (h1 : TD a b) (h2 : SQ (tN a b)) (lo : Nat) (h : VHeap) : callVL vp lo n_turn_Then [.agg (.bool false :: rv a), .agg (.bool false :: rv b)] h = some (.agg (thenT a b), h) := by
  have f1 := turnfit_spec ga
  have f2 := turnfit_spec gb
  have s := AddQ_spec ga gb
  have o := Of1Q_spec
  have m := MulQ_spec ga gb
  have d := SubQ_spec SQ.one h1.m
  have es : a + b = b + a := Rat.add_comm a b
  rw [es] at s
  have t := turnOf_spec h2.fq
  have ht := halfTurn_spec
  unfold thenT
  refine call_valE (fn := turn_Then_v) rfl rfl rfl rfl rfl ?_ lo h
  by_cases hz : 1 - a * b = 0
  · rw [if_pos hz]
    have dv := DivQ0_spec h1.n
    rw [hz] at d
    clear hz t h1 h2 es
    unfold rz at dv
    obtain ⟨p1, q1, r1, e1⟩ := rvx a
    obtain ⟨p2, q2, r2, e2⟩ := rvx b
    obtain ⟨p3, q3, r3, e3⟩ := rvx (b + a)
    obtain ⟨p4, q4, r4, e4⟩ := rvx (a * b)
    obtain ⟨p5, q5, r5, e5⟩ := rvx (1 : Rat)
    obtain ⟨p6, q6, r6, e6⟩ := rvx (0 : Rat)
    simp only [e1, e2, e3, e4, e5, e6] at f1 f2 s o m d dv ht ⊢
    clear e1 e2 e3 e4 e5 e6
    simp -implicitDefEqProofs only [go_sem, ↓reduceIte, reduceCtorEq, Int.reduceLT, Int.reduceLE, Int.reduceToNat, Nat.reduceAdd, Nat.reduceMul, Nat.reduceLeDiff, Nat.reduceLT, Nat.reduceSub, Int.reduceNeg, Int.reduceEq, Int.reduceBEq, Int.reduceBNe, Nat.reduceEqDiff, f1, f2, s, o, m, d, dv, ht]
  · rw [if_neg hz]
    have dv := DivQ_spec h1.n h1.d (fun h => hz (num_zero_iff.1 h))
    rw [show (b + a) / (1 - a * b) = tN a b from rfl] at dv
    generalize tN a b = N at *
    generalize hY : 1 - a * b = Y at *
    clear hY ht
    obtain ⟨p1, q1, r1, e1⟩ := rvx a
    obtain ⟨p2, q2, r2, e2⟩ := rvx b
    obtain ⟨p3, q3, r3, e3⟩ := rvx (b + a)
    obtain ⟨p4, q4, r4, e4⟩ := rvx (a * b)
    obtain ⟨p5, q5, r5, e5⟩ := rvx (1 : Rat)
    obtain ⟨p6, q6, r6, e6⟩ := rvx Y
    obtain ⟨p7, q7, r7, e7⟩ := rvx N
    simp only [e1, e2, e3, e4, e5, e6, e7] at f1 f2 s o m d dv t ⊢
    clear e1 e2 e3 e4 e5 e6 e7
    simp -implicitDefEqProofs only [go_sem, ↓reduceIte, reduceCtorEq, Int.reduceLT, Int.reduceLE, Int.reduceToNat, Nat.reduceAdd, Nat.reduceMul, Nat.reduceLeDiff, Nat.reduceLT, Nat.reduceSub, Int.reduceNeg, Int.reduceEq, Int.reduceBEq, Int.reduceBNe, Nat.reduceEqDiff, f1, f2, s, o, m, d, dv, t]
theorem thenT_x (a b : Rat) : ∃ c d e f, thenT a b = [.bool c, .bool d, .str e, .str f] := by
  unfold thenT
  split
  · exact ⟨_, _, _, _, rfl⟩
  · exact ⟨_, _, _, _, rfl⟩
theorem vecSub_spec {a b c d : Rat} (ga : SQ a) (gb : SQ b) (gc : SQ c) (gd : SQ d) (lo : Nat) (h : VHeap) : callVL vp lo n_vec_Sub [.agg (ptv a b), .agg (ptv c d)] h = some (.agg (ptv (a - c) (b - d)), h) := by
  refine call_valE (fn := vec_Sub_v) rfl rfl rfl rfl rfl ?_ lo h
  have s1 := SubQ_spec ga gc
  have s2 := SubQ_spec gb gd
  unfold ptv
  obtain ⟨p1, q1, r1, e1⟩ := rvx a
  obtain ⟨p2, q2, r2, e2⟩ := rvx b
  obtain ⟨p3, q3, r3, e3⟩ := rvx c
  obtain ⟨p4, q4, r4, e4⟩ := rvx d
  obtain ⟨p5, q5, r5, e5⟩ := rvx (a - c)
  obtain ⟨p6, q6, r6, e6⟩ := rvx (b - d)
  simp only [e1, e2, e3, e4, e5, e6, List.cons_append, List.nil_append] at s1 s2 ⊢
  clear e1 e2 e3 e4 e5 e6
  simp -implicitDefEqProofs only [go_sem, ↓reduceIte, reduceCtorEq, Int.reduceLT, Int.reduceLE, Int.reduceToNat, Nat.reduceAdd, Nat.reduceMul, Nat.reduceLeDiff, Nat.reduceLT, Nat.reduceSub, Int.reduceNeg, Int.reduceEq, Int.reduceBEq, Int.reduceBNe, Nat.reduceEqDiff, s1, s2]
theorem Zero_spec (lo : Nat) (h : VHeap) : callVL vp lo n_frame_Zero [] h = some (.agg (frv (rv 0) (rv 0) (rv 0)), h) := by
  refine call_valE (fn := frame_Zero_v) rfl rfl rfl rfl rfl ?_ lo h
  have o := Of0Q_spec
  have t := turnOf_spec SQ.zero.fq
  unfold frv
  obtain ⟨b1, x1, y1, e1⟩ := rvx (0 : Rat)
  simp only [e1, List.cons_append, List.nil_append] at o t ⊢
  clear e1
  simp -implicitDefEqProofs only [go_sem, ↓reduceIte, reduceCtorEq, Int.reduceLT, Int.reduceLE, Int.reduceToNat, Nat.reduceAdd, Nat.reduceMul, Nat.reduceLeDiff, Nat.reduceLT, Nat.reduceSub, Int.reduceNeg, Int.reduceEq, Int.reduceBEq, Int.reduceBNe, Nat.reduceEqDiff, o, t]
theorem Back_spec {x y t : Rat} (gx : SQ x) (gy : SQ y) (gt : SQ t) (g : VT (0 - x) (0 - y) (-t)) (lo : Nat) (h : VHeap) : callVL vp lo n_frame_Back [.agg (frv (rv x) (rv y) (rv t))] h = some (.agg (frv (rv (trX (0 - x) (0 - y) (-t))) (rv (trY (0 - x) (0 - y) (-t))) (rv (-t))), h) := by
  refine call_valE (fn := frame_Back_v) rfl rfl rfl rfl rfl ?_ lo h
  have z := Zero_spec
  have b := turnBack_spec gt.fq
  have s := vecSub_spec SQ.zero SQ.zero gx gy
  have v := vecTurn_spec g
  unfold ptv at s v
  unfold frv at z ⊢
  generalize trX (0 - x) (0 - y) (-t) = U at *
  generalize trY (0 - x) (0 - y) (-t) = V at *
  obtain ⟨p1, q1, r1, e1⟩ := rvx x
  obtain ⟨p2, q2, r2, e2⟩ := rvx y
  obtain ⟨p3, q3, r3, e3⟩ := rvx t
  obtain ⟨p4, q4, r4, e4⟩ := rvx (-t)
  obtain ⟨p5, q5, r5, e5⟩ := rvx (0 - x)
  obtain ⟨p6, q6, r6, e6⟩ := rvx (0 - y)
  obtain ⟨p7, q7, r7, e7⟩ := rvx U
  obtain ⟨p8, q8, r8, e8⟩ := rvx V
  obtain ⟨p9, q9, r9, e9⟩ := rvx (0 : Rat)
  simp only [e1, e2, e3, e4, e5, e6, e7, e8, e9, List.cons_append, List.nil_append] at z b s v ⊢
  clear e1 e2 e3 e4 e5 e6 e7 e8 e9
  simp -implicitDefEqProofs only [go_sem, ↓reduceIte, reduceCtorEq, Int.reduceLT, Int.reduceLE, Int.reduceToNat, Nat.reduceAdd, Nat.reduceMul, Nat.reduceLeDiff, Nat.reduceLT, Nat.reduceSub, Int.reduceNeg, Int.reduceEq, Int.reduceBEq, Int.reduceBNe, Nat.reduceEqDiff, z, b, s, v]
theorem Then_spec {ax ay a bx by' b : Rat} (v : VT bx by' a) (gx : SQ ax) (gy : SQ ay) (h1 : SQ (trX bx by' a)) (h2 : SQ (trY bx by' a)) (gb : SQ b) (d : TD a b) (n : SQ (tN a b)) (lo : Nat) (h : VHeap) : callVL vp lo n_frame_Then [.agg (frv (rv ax) (rv ay) (rv a)), .agg (frv (rv bx) (rv by') (rv b))] h = some (.agg (ptv (ax + trX bx by' a) (ay + trY bx by' a) ++ thenT a b), h) := by
  refine call_valE (fn := frame_Then_v) rfl rfl rfl rfl rfl ?_ lo h
  have p := Put_spec v gx gy h1 h2
  have t := turnThen_spec v.gt.g0 gb d n
  obtain ⟨c1, c2, c3, c4, et⟩ := thenT_x a b
  unfold ptv frv at *
  generalize ax + trX bx by' a = U at *
  generalize ay + trY bx by' a = V at *
  obtain ⟨p1, q1, r1, e1⟩ := rvx ax
  obtain ⟨p2, q2, r2, e2⟩ := rvx ay
  obtain ⟨p3, q3, r3, e3⟩ := rvx a
  obtain ⟨p4, q4, r4, e4⟩ := rvx bx
  obtain ⟨p5, q5, r5, e5⟩ := rvx by'
  obtain ⟨p6, q6, r6, e6⟩ := rvx b
  obtain ⟨p7, q7, r7, e7⟩ := rvx U
  obtain ⟨p8, q8, r8, e8⟩ := rvx V
  rw [et] at t ⊢
  simp only [e1, e2, e3, e4, e5, e6, e7, e8, List.cons_append, List.nil_append] at p t ⊢
  clear e1 e2 e3 e4 e5 e6 e7 e8 et
  simp -implicitDefEqProofs only [go_sem, ↓reduceIte, reduceCtorEq, Int.reduceLT, Int.reduceLE, Int.reduceToNat, Nat.reduceAdd, Nat.reduceMul, Nat.reduceLeDiff, Nat.reduceLT, Nat.reduceSub, Int.reduceNeg, Int.reduceEq, Int.reduceBEq, Int.reduceBNe, Nat.reduceEqDiff, p, t]
open Classical in
theorem Grasp_spec {p : Po} {c1 c2 s1 s2 x y t : Rat} (g : PT p c1 c2 s1 s2 x y) (gT : SP p.t1 p.t2) (gt : SQ t) (h1 : TD t p.t1) (h2 : TD t p.t2) (lo : Nat) (h : VHeap) : callVL vp lo n_carry_Grasp [.agg p.v, .agg (frv (rv x) (rv y) (rv t))] h = some (.tup [.agg (if tOK t p.t1 p.t2 then (Po.mk (bX1 p c1 c2 s1 s2 x y) (bX2 p c1 c2 s1 s2 x y) (bY1 p c1 c2 s1 s2 x y) (bY2 p c1 c2 s1 s2 x y) (tN t p.t1) (tN t p.t2)).v else Po.nz), .int .i64 (if tOK t p.t1 p.t2 then 0 else 18)], h) := by
  have tt := turned_spec gT.sv gt h1 h2
  have pt := Point_spec g
  clear g gT gt h1 h2
  unfold Po.nz Po.v frv
  unfold bxv ptv at pt
  generalize bX1 p c1 c2 s1 s2 x y = A1 at *
  generalize bX2 p c1 c2 s1 s2 x y = A2 at *
  generalize bY1 p c1 c2 s1 s2 x y = B1 at *
  generalize bY2 p c1 c2 s1 s2 x y = B2 at *
  unfold Po.v at pt
  obtain ⟨px1, px2, py1, py2, pt1, pt2⟩ := p
  simp only at tt pt ⊢
  generalize tN t pt1 = N1 at *
  generalize tN t pt2 = N2 at *
  refine call_valE (fn := carry_Grasp_v) rfl rfl rfl rfl rfl ?_ lo h
  obtain ⟨b0', x0', y0', h0'⟩ := rvx px1
  obtain ⟨b1', x1', y1', h1'⟩ := rvx px2
  obtain ⟨b2', x2', y2', h2'⟩ := rvx py1
  obtain ⟨b3', x3', y3', h3'⟩ := rvx py2
  obtain ⟨b4', x4', y4', h4'⟩ := rvx pt1
  obtain ⟨b5', x5', y5', h5'⟩ := rvx pt2
  obtain ⟨b6', x6', y6', h6'⟩ := rvx x
  obtain ⟨b7', x7', y7', h7'⟩ := rvx y
  obtain ⟨b8', x8', y8', h8'⟩ := rvx t
  obtain ⟨b9', x9', y9', h9'⟩ := rvx A1
  obtain ⟨b10', x10', y10', h10'⟩ := rvx A2
  obtain ⟨b11', x11', y11', h11'⟩ := rvx B1
  obtain ⟨b12', x12', y12', h12'⟩ := rvx B2
  obtain ⟨b13', x13', y13', h13'⟩ := rvx N1
  obtain ⟨b14', x14', y14', h14'⟩ := rvx N2
  unfold rz at *
  by_cases hc : tOK t pt1 pt2
  · simp only [if_pos hc] at tt ⊢
    simp only [h0', h1', h2', h3', h4', h5', h6', h7', h8', h9', h10', h11', h12', h13', h14', List.cons_append, List.nil_append] at tt pt ⊢
    clear h0' h1' h2' h3' h4' h5' h6' h7' h8' h9' h10' h11' h12' h13' h14'
    simp -implicitDefEqProofs only [go_sem, ↓reduceIte, reduceCtorEq, Int.reduceLT, Int.reduceLE, Int.reduceToNat, Nat.reduceAdd, Nat.reduceMul, Nat.reduceLeDiff, Nat.reduceLT, Nat.reduceSub, Int.reduceNeg, Int.reduceEq, Int.reduceBEq, Int.reduceBNe, Nat.reduceEqDiff, tt, pt]
  · simp only [if_neg hc] at tt ⊢
    simp only [h0', h1', h2', h3', h4', h5', h6', h7', h8', h9', h10', h11', h12', h13', h14', List.cons_append, List.nil_append] at tt pt ⊢
    clear h0' h1' h2' h3' h4' h5' h6' h7' h8' h9' h10' h11' h12' h13' h14'
    simp -implicitDefEqProofs only [go_sem, ↓reduceIte, reduceCtorEq, Int.reduceLT, Int.reduceLE, Int.reduceToNat, Nat.reduceAdd, Nat.reduceMul, Nat.reduceLeDiff, Nat.reduceLT, Nat.reduceSub, Int.reduceNeg, Int.reduceEq, Int.reduceBEq, Int.reduceBNe, Nat.reduceEqDiff, tt]
end Vg.G3
