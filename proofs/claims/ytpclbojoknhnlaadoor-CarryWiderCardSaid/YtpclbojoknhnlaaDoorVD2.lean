import Derived.Test.YtpclbojoknhnlaaDoorVC8
namespace Vg.G3
open Go Lg Vg.Nm
set_option linter.unusedSimpArgs false
set_option linter.unusedVariables false
set_option maxRecDepth 10000
set_option maxHeartbeats 4000000
attribute [local congr] bind_congr1
attribute [local go_sem] carry_Drift_r0 carry_Drift_r1 carry_Drift_r2 carry_Drift_r3 carry_Drift_r3_d carry_Drift_r4 carry_Drift_r5 carry_Drift_r6 carry_Drift_r7 carry_Drift_r8 carry_Drift_r9 carry_Drift_r9_d carry_Drift_r10 carry_Drift_r11 carry_Drift_r12 carry_Drift_r13 carry_Drift_r14 carry_Drift_f carry_Drift_v

theorem wide0 (p : Po) : p.wide 0 0 = p := by
  obtain ⟨a, b, c, d, e, f⟩ := p
  unfold Po.wide
  simp only [Rat.add_zero, show ∀ q : Rat, q - 0 = q from fun q => by grind]
/-- One carry that slips. -/
theorem Drift_of {p r w : Po} {fv gv qv : List VV} {by' : Rat} {e e' : Int} (hf : ∃ a1 a2 a3 a4 a5 a6 a7 a8 a9, fv = [.bool a1, .str a2, .str a3, .bool a4, .str a5, .str a6, .bool false, .bool a7, .str a8, .str a9]) (hg : ∃ a1 a2 a3 a4 a5 a6 a7 a8 a9, gv = [.bool a1, .str a2, .str a3, .bool a4, .str a5, .str a6, .bool false, .bool a7, .str a8, .str a9])
    (hq : ∃ p : Po, qv = p.v ∨ qv = Po.nz) (g : p.ok)
    (h1 : ∀ lo h, callVL vp lo n_carry_Grip [.agg p.v, .agg fv] h = some (.tup [.agg (if e = 0 then r.v else Po.nz), .int .i64 e], h))
    (h2 : e = 0 → ∀ lo h, callVL vp lo n_see_Widen [.agg r.v, .agg (rv by'), .agg (rv 0)] h = some (.agg w.v, h))
    (h3 : e = 0 → ∀ lo h, callVL vp lo n_carry_Put [.agg w.v, .agg gv] h = some (.tup [.agg qv, .int .i64 e'], h)) (lo : Nat) (h : VHeap) :
    callVL vp lo n_carry_Drift [.agg p.v, .list .s [fv ++ gv], .agg (rv by'), .agg (rv 0)] h = some (.tup [.agg (if e = 0 then (if e' = 0 then qv else Po.nz) else Po.nz), .int .i64 (if e = 0 then e' else e)], h) := by
  have o := Of0Q_spec
  have W := Widen_spec g SQ.zero SQ.zero Rat.le_refl Rat.le_refl
  rw [wide0] at W
  obtain ⟨f1, f2, f3, f4, f5, f6, f7, f8, f9, rfl⟩ := hf
  obtain ⟨g1, g2, g3, g4, g5, g6, g7, g8, g9, rfl⟩ := hg
  have hq' : ∃ b1 n1 d1 b2 n2 d2 b3 n3 d3 b4 n4 d4 b5 n5 d5 b6 n6 d6, qv = [.bool b1, .str n1, .str d1, .bool b2, .str n2, .str d2, .bool b3, .str n3, .str d3, .bool b4, .str n4, .str d4, .bool b5, .str n5, .str d5, .bool b6, .str n6, .str d6] := by
    obtain ⟨p, rfl | rfl⟩ := hq
    · exact p.vx
    · exact ⟨_, _, _, _, _, _, _, _, _, _, _, _, _, _, _, _, _, _, rfl⟩
  obtain ⟨a1, a2, a3, a4, a5, a6, a7, a8, a9, a10, a11, a12, a13, a14, a15, a16, a17, a18, pe⟩ := p.vx
  obtain ⟨b1, b2, b3, b4, b5, b6, b7, b8, b9, b10, b11, b12, b13, b14, b15, b16, b17, b18, re⟩ := r.vx
  obtain ⟨c1, c2, c3, c4, c5, c6, c7, c8, c9, c10, c11, c12, c13, c14, c15, c16, c17, c18, rfl⟩ := hq'
  obtain ⟨d1, d2, d3, d4, d5, d6, d7, d8, d9, d10, d11, d12, d13, d14, d15, d16, d17, d18, we⟩ := w.vx
  obtain ⟨z1, z2, z3, ze⟩ := rvx (0 : Rat)
  obtain ⟨y1, y2, y3, ye⟩ := rvx by'
  simp only [pe, re, we, ze, ye, Po.nz_x, List.cons_append, List.nil_append] at h1 h2 h3 o W ⊢
  clear pe re we ze ye hq g
  refine call_valE (fn := carry_Drift_v) rfl rfl rfl rfl rfl ?_ lo h
  by_cases he : e = 0
  · subst he
    have k2 := h2 rfl
    have k3 := h3 rfl
    clear h2 h3
    simp only [if_true] at h1 ⊢
    by_cases he' : e' = 0
    · subst he'
      simp only [if_true]
      simp -implicitDefEqProofs only [go_sem, ↓reduceIte, reduceCtorEq, Int.reduceLT, Int.reduceLE, Int.reduceToNat, Nat.reduceAdd, Nat.reduceMul, Nat.reduceLeDiff, Nat.reduceLT, Nat.reduceSub, Int.reduceNeg, Int.reduceEq, Int.reduceBEq, Int.reduceBNe, Nat.reduceEqDiff, o, W, List.length_cons, List.length_nil]
      rw [Sat_bind]
      refine loop_up (I := fun i env h' => (∃ q1 q2 q3 q4 q5 q6 q7 q8 q9 q10 q11 q12 q13 q14 q15 q16 q17 q18, (i = 0 → [q1, q2, q3, q4, q5, q6, q7, q8, q9, q10, q11, q12, q13, q14, q15, q16, q17, q18] = [VV.bool a1, .str a2, .str a3, .bool a4, .str a5, .str a6, .bool a7, .str a8, .str a9, .bool a10, .str a11, .str a12, .bool a13, .str a14, .str a15, .bool a16, .str a17, .str a18]) ∧ (i = 1 → [q1, q2, q3, q4, q5, q6, q7, q8, q9, q10, q11, q12, q13, q14, q15, q16, q17, q18] = [VV.bool c1, .str c2, .str c3, .bool c4, .str c5, .str c6, .bool c7, .str c8, .str c9, .bool c10, .str c11, .str c12, .bool c13, .str c14, .str c15, .bool c16, .str c17, .str c18]) ∧ h' = [.cells true [.bool a1, .str a2, .str a3, .bool a4, .str a5, .str a6, .bool a7, .str a8, .str a9, .bool a10, .str a11, .str a12, .bool a13, .str a14, .str a15, .bool a16, .str a17, .str a18], .cells true [.bool y1, .str y2, .str y3], .cells true [.bool z1, .str z2, .str z3], .cells true [.bool false, .str [], .str [], .bool false, .str [], .str [], .bool false, .str [], .str [], .bool false, .str [], .str [], .bool false, .str [], .str [], .bool false, .str [], .str []], .cells true [q1, q2, q3, q4, q5, q6, q7, q8, q9, q10, q11, q12, q13, q14, q15, q16, q17, q18]]) ∧
        env = (VV.undef :: VV.undef :: VV.undef :: VV.undef :: VV.undef :: VV.undef :: (.ptr 1 0 : VV) :: (.ptr 2 0 : VV) :: (.ptr 3 0 : VV) :: VV.undef :: (.ptr 4 0 : VV) :: VV.undef :: VV.undef :: VV.undef :: VV.undef :: VV.undef :: VV.undef :: VV.undef :: VV.undef :: VV.undef :: VV.undef :: VV.undef :: VV.undef :: (.list .s [[.bool f1, .str f2, .str f3, .bool f4, .str f5, .str f6, .bool false, .bool f7, .str f8, .str f9, .bool g1, .str g2, .str g3, .bool g4, .str g5, .str g6, .bool false, .bool g7, .str g8, .str g9]] : VV) :: (.int .i64 1 : VV) :: (.int .i64 ((i : Nat) : Int) : VV) :: VV.undef :: VV.undef :: VV.undef :: VV.undef :: VV.undef :: VV.undef :: VV.undef :: VV.undef :: VV.undef :: VV.undef :: VV.undef :: VV.undef :: VV.undef :: VV.undef :: VV.undef :: VV.undef :: VV.undef :: VV.undef :: VV.undef :: VV.undef :: VV.undef :: VV.undef :: VV.undef :: VV.undef :: VV.undef :: VV.undef :: VV.undef :: VV.undef :: VV.undef :: [])) 1 ?_ ?_ (Nat.zero_le _) ⟨⟨_, _, _, _, _, _, _, _, _, _, _, _, _, _, _, _, _, _, fun _ => rfl, fun h => absurd h (by decide), rfl⟩, by simp -implicitDefEqProofs only [go_sem, ↓reduceIte, reduceCtorEq, Int.reduceLT, Int.reduceLE, Int.reduceToNat, Nat.reduceAdd, Nat.reduceMul, Nat.reduceLeDiff, Nat.reduceLT, Nat.reduceSub, Int.reduceNeg, Int.reduceEq, Int.reduceBEq, Int.reduceBNe, Nat.reduceEqDiff]⟩
      · rintro i env h' hi ⟨⟨q1, q2, q3, q4, q5, q6, q7, q8, q9, q10, q11, q12, q13, q14, q15, q16, q17, q18, hq0, -, rfl⟩, rfl⟩
        obtain rfl : i = 0 := by omega
        have hq1 := hq0 rfl
        simp only [List.cons.injEq, and_true] at hq1
        obtain ⟨rfl, rfl, rfl, rfl, rfl, rfl, rfl, rfl, rfl, rfl, rfl, rfl, rfl, rfl, rfl, rfl, rfl, rfl⟩ := hq1
        simp -implicitDefEqProofs only [carry_Drift_b0, go_sem, ↓reduceIte, reduceCtorEq, Int.reduceLT, Int.reduceLE, Int.reduceToNat, Nat.reduceAdd, Nat.reduceMul, Nat.reduceLeDiff, Nat.reduceLT, Nat.reduceSub, Int.reduceNeg, Int.reduceEq, Int.reduceBEq, Int.reduceBNe, Nat.reduceEqDiff, h1, k2, k3, show ((0 : Nat) : Int) = 0 from rfl, show (0 : Int) < 1 from by decide, show IntKind.i64.wrap (0 + 1) = 1 from by decide]
        exact ⟨_, _, _, _, _, _, _, _, _, _, _, _, _, _, _, _, _, _, fun h => h.elim, fun _ => rfl, rfl⟩
      · rintro env h' ⟨⟨q1, q2, q3, q4, q5, q6, q7, q8, q9, q10, q11, q12, q13, q14, q15, q16, q17, q18, -, hq0, rfl⟩, rfl⟩
        have hq1 := hq0 rfl
        simp only [List.cons.injEq, and_true] at hq1
        obtain ⟨rfl, rfl, rfl, rfl, rfl, rfl, rfl, rfl, rfl, rfl, rfl, rfl, rfl, rfl, rfl, rfl, rfl, rfl⟩ := hq1
        simp -implicitDefEqProofs only [carry_Drift_b0, go_sem, ↓reduceIte, reduceCtorEq, Int.reduceLT, Int.reduceLE, Int.reduceToNat, Nat.reduceAdd, Nat.reduceMul, Nat.reduceLeDiff, Nat.reduceLT, Nat.reduceSub, Int.reduceNeg, Int.reduceEq, Int.reduceBEq, Int.reduceBNe, Nat.reduceEqDiff, Int.lt_irrefl, show ((1 : Nat) : Int) = 1 from rfl]
    · simp only [if_neg he']
      simp -implicitDefEqProofs only [go_sem, ↓reduceIte, reduceCtorEq, Int.reduceLT, Int.reduceLE, Int.reduceToNat, Nat.reduceAdd, Nat.reduceMul, Nat.reduceLeDiff, Nat.reduceLT, Nat.reduceSub, Int.reduceNeg, Int.reduceEq, Int.reduceBEq, Int.reduceBNe, Nat.reduceEqDiff, o, W, List.length_cons, List.length_nil]
      rw [Sat_bind]
      refine loop_up (I := fun i env h' => i = 0 ∧ h' = [.cells true [.bool a1, .str a2, .str a3, .bool a4, .str a5, .str a6, .bool a7, .str a8, .str a9, .bool a10, .str a11, .str a12, .bool a13, .str a14, .str a15, .bool a16, .str a17, .str a18], .cells true [.bool y1, .str y2, .str y3], .cells true [.bool z1, .str z2, .str z3], .cells true [.bool false, .str [], .str [], .bool false, .str [], .str [], .bool false, .str [], .str [], .bool false, .str [], .str [], .bool false, .str [], .str [], .bool false, .str [], .str []], .cells true [.bool a1, .str a2, .str a3, .bool a4, .str a5, .str a6, .bool a7, .str a8, .str a9, .bool a10, .str a11, .str a12, .bool a13, .str a14, .str a15, .bool a16, .str a17, .str a18]] ∧
        env = (VV.undef :: VV.undef :: VV.undef :: VV.undef :: VV.undef :: VV.undef :: (.ptr 1 0 : VV) :: (.ptr 2 0 : VV) :: (.ptr 3 0 : VV) :: VV.undef :: (.ptr 4 0 : VV) :: VV.undef :: VV.undef :: VV.undef :: VV.undef :: VV.undef :: VV.undef :: VV.undef :: VV.undef :: VV.undef :: VV.undef :: VV.undef :: VV.undef :: (.list .s [[.bool f1, .str f2, .str f3, .bool f4, .str f5, .str f6, .bool false, .bool f7, .str f8, .str f9, .bool g1, .str g2, .str g3, .bool g4, .str g5, .str g6, .bool false, .bool g7, .str g8, .str g9]] : VV) :: (.int .i64 1 : VV) :: (.int .i64 0 : VV) :: VV.undef :: VV.undef :: VV.undef :: VV.undef :: VV.undef :: VV.undef :: VV.undef :: VV.undef :: VV.undef :: VV.undef :: VV.undef :: VV.undef :: VV.undef :: VV.undef :: VV.undef :: VV.undef :: VV.undef :: VV.undef :: VV.undef :: VV.undef :: VV.undef :: VV.undef :: VV.undef :: VV.undef :: VV.undef :: VV.undef :: VV.undef :: VV.undef :: VV.undef :: [])) 1 ?_ ?_ (Nat.zero_le _) ⟨rfl, rfl, by simp -implicitDefEqProofs only [go_sem, ↓reduceIte, reduceCtorEq, Int.reduceLT, Int.reduceLE, Int.reduceToNat, Nat.reduceAdd, Nat.reduceMul, Nat.reduceLeDiff, Nat.reduceLT, Nat.reduceSub, Int.reduceNeg, Int.reduceEq, Int.reduceBEq, Int.reduceBNe, Nat.reduceEqDiff]⟩
      · rintro i env h' hi ⟨rfl, rfl, rfl⟩
        simp -implicitDefEqProofs only [carry_Drift_b0, go_sem, ↓reduceIte, reduceCtorEq, Int.reduceLT, Int.reduceLE, Int.reduceToNat, Nat.reduceAdd, Nat.reduceMul, Nat.reduceLeDiff, Nat.reduceLT, Nat.reduceSub, Int.reduceNeg, Int.reduceEq, Int.reduceBEq, Int.reduceBNe, Nat.reduceEqDiff, h1, k2, k3, he', show (0 : Int) < 1 from by decide]
      · rintro env h' ⟨h0, -⟩
        exact absurd h0 (by decide)
  · simp only [if_neg he] at h1 ⊢
    clear h2 h3
    simp -implicitDefEqProofs only [go_sem, ↓reduceIte, reduceCtorEq, Int.reduceLT, Int.reduceLE, Int.reduceToNat, Nat.reduceAdd, Nat.reduceMul, Nat.reduceLeDiff, Nat.reduceLT, Nat.reduceSub, Int.reduceNeg, Int.reduceEq, Int.reduceBEq, Int.reduceBNe, Nat.reduceEqDiff, o, W, List.length_cons, List.length_nil]
    rw [Sat_bind]
    refine loop_up (I := fun i env h' => i = 0 ∧ h' = [.cells true [.bool a1, .str a2, .str a3, .bool a4, .str a5, .str a6, .bool a7, .str a8, .str a9, .bool a10, .str a11, .str a12, .bool a13, .str a14, .str a15, .bool a16, .str a17, .str a18], .cells true [.bool y1, .str y2, .str y3], .cells true [.bool z1, .str z2, .str z3], .cells true [.bool false, .str [], .str [], .bool false, .str [], .str [], .bool false, .str [], .str [], .bool false, .str [], .str [], .bool false, .str [], .str [], .bool false, .str [], .str []], .cells true [.bool a1, .str a2, .str a3, .bool a4, .str a5, .str a6, .bool a7, .str a8, .str a9, .bool a10, .str a11, .str a12, .bool a13, .str a14, .str a15, .bool a16, .str a17, .str a18]] ∧
      env = (VV.undef :: VV.undef :: VV.undef :: VV.undef :: VV.undef :: VV.undef :: (.ptr 1 0 : VV) :: (.ptr 2 0 : VV) :: (.ptr 3 0 : VV) :: VV.undef :: (.ptr 4 0 : VV) :: VV.undef :: VV.undef :: VV.undef :: VV.undef :: VV.undef :: VV.undef :: VV.undef :: VV.undef :: VV.undef :: VV.undef :: VV.undef :: VV.undef :: (.list .s [[.bool f1, .str f2, .str f3, .bool f4, .str f5, .str f6, .bool false, .bool f7, .str f8, .str f9, .bool g1, .str g2, .str g3, .bool g4, .str g5, .str g6, .bool false, .bool g7, .str g8, .str g9]] : VV) :: (.int .i64 1 : VV) :: (.int .i64 0 : VV) :: VV.undef :: VV.undef :: VV.undef :: VV.undef :: VV.undef :: VV.undef :: VV.undef :: VV.undef :: VV.undef :: VV.undef :: VV.undef :: VV.undef :: VV.undef :: VV.undef :: VV.undef :: VV.undef :: VV.undef :: VV.undef :: VV.undef :: VV.undef :: VV.undef :: VV.undef :: VV.undef :: VV.undef :: VV.undef :: VV.undef :: VV.undef :: VV.undef :: VV.undef :: [])) 1 ?_ ?_ (Nat.zero_le _) ⟨rfl, rfl, by simp -implicitDefEqProofs only [go_sem, ↓reduceIte, reduceCtorEq, Int.reduceLT, Int.reduceLE, Int.reduceToNat, Nat.reduceAdd, Nat.reduceMul, Nat.reduceLeDiff, Nat.reduceLT, Nat.reduceSub, Int.reduceNeg, Int.reduceEq, Int.reduceBEq, Int.reduceBNe, Nat.reduceEqDiff]⟩
    · rintro i env h' hi ⟨rfl, rfl, rfl⟩
      simp -implicitDefEqProofs only [carry_Drift_b0, go_sem, ↓reduceIte, reduceCtorEq, Int.reduceLT, Int.reduceLE, Int.reduceToNat, Nat.reduceAdd, Nat.reduceMul, Nat.reduceLeDiff, Nat.reduceLT, Nat.reduceSub, Int.reduceNeg, Int.reduceEq, Int.reduceBEq, Int.reduceBNe, Nat.reduceEqDiff, h1, he, show (0 : Int) < 1 from by decide]
    · rintro env h' ⟨h0, -⟩
      exact absurd h0 (by decide)
end Vg.G3
namespace Vg.G3
open Go Lg Vg.Nm
set_option linter.unusedSimpArgs false
set_option linter.unusedVariables false
set_option maxRecDepth 10000
set_option maxHeartbeats 4000000
attribute [local congr] bind_congr1

theorem mk_nn {n : Int} (h : 0 ≤ n) {d : Nat} (hd : d ≠ 0) : 0 ≤ mkRat n d := by
  have := mk_le hd h
  rwa [mk_zero] at this
theorem QX.half {N A : Nat} {q : Rat} (h : QX N A q) (h0 : N ≠ 0) {n : Int} (hn : n.natAbs ≤ 16) : QX (2 * N) (A + 5000) (q + mkRat n 8) := by
  obtain ⟨k, rfl, hk⟩ := h
  refine ⟨k * (2 : Nat) + n * (N : Nat), ?_, ?_⟩
  · rw [mk_scale (a := k) (D := 4 * N) (E := 2) (by omega) (by decide), mk_scale (a := n) (D := 8) (E := N) (by decide) h0, show 4 * N * 2 = 4 * (2 * N) by omega, show 8 * N = 4 * (2 * N) by omega, mk_add (by omega)]
  · have a3 := Int.natAbs_add_le (k * (2 : Nat)) (n * (N : Nat))
    rw [Int.natAbs_mul, Int.natAbs_mul, Int.natAbs_natCast, Int.natAbs_natCast] at a3
    have a4 := Nat.mul_le_mul_right N hn
    rw [Nat.add_mul, Nat.mul_left_comm A 2 N]
    omega
theorem PO.wide {N A B : Nat} {p : Po} (po : PO N A B p) {n : Int} (h0 : 0 ≤ n) (hn : n ≤ 16) : PO (2 * N) (A + 5000) B (p.wide (mkRat n 8) 0) := by
  have e : ∀ q : Rat, q - mkRat n 8 = q + mkRat (-n) 8 := fun q => by rw [Rat.sub_eq_add_neg, neg_mkRat]
  have hp : 0 ≤ mkRat n 8 := mk_nn h0 (by decide)
  have b := po.bx
  have x := b.sx
  have y := b.sy
  refine ⟨⟨by have := b.n0; omega, ?_, b.qb.half b.n0 (by omega), ?_, b.qd.half b.n0 (by omega), ?_, ?_⟩, ?_, ?_, ?_⟩
  · show QX _ _ (p.x1 - mkRat n 8)
    rw [e]; exact b.qa.half b.n0 (by omega)
  · show QX _ _ (p.y1 - mkRat n 8)
    rw [e]; exact b.qc.half b.n0 (by omega)
  · show p.x1 - mkRat n 8 ≤ p.x2 + mkRat n 8
    grind
  · show p.y1 - mkRat n 8 ≤ p.y2 + mkRat n 8
    grind
  · show TS B (p.t1 - 0)
    rw [show p.t1 - 0 = p.t1 by grind]; exact po.ta
  · show TS B (p.t2 + 0)
    rw [Rat.add_zero]; exact po.tb
  · show p.t1 - 0 ≤ p.t2 + 0
    rw [show p.t1 - 0 = p.t1 by grind, Rat.add_zero]; exact po.le
/-- Where a carry that slips leaves a pose. -/
def Po.drift (p : Po) (gx gy gt ux uy ut e : Rat) : Po := ((p.grip gx gy gt).wide e 0).put ux uy ut
theorem Drift_at {N A B E E2 : Nat} {p : Po} (po : PO N A B p) {i j k u v w n : Int} (hi : i.natAbs ≤ 16) (hj : j.natAbs ≤ 16) (hk : k.natAbs ≤ 4) (hu : u.natAbs ≤ 16) (hv : v.natAbs ≤ 16) (hw : w.natAbs ≤ 4) (n0 : 0 ≤ n) (hn : n ≤ 16) (hA : A + 20000 ≤ 5 * E) (hA2 : 7 * E + 5000 ≤ 5 * E2) (hN : N ≤ 300) (hE : 7 * E2 + 20000 ≤ 300000) (hB : B ≤ 2000000) :
    ∃ (q : List VV) (e : Int), ((e = 18 ∧ q = Po.nz ∧ ¬ (tOK (-mkRat k 4) p.t1 p.t2 ∧ tOK (mkRat w 4) (tN (-mkRat k 4) p.t1) (tN (-mkRat k 4) p.t2))) ∨ (e = 0 ∧ (tOK (-mkRat k 4) p.t1 p.t2 ∧ tOK (mkRat w 4) (tN (-mkRat k 4) p.t1) (tN (-mkRat k 4) p.t2)) ∧ q = (p.drift (mkRat i 2) (mkRat j 2) (mkRat k 4) (mkRat u 2) (mkRat v 2) (mkRat w 4) (mkRat n 8)).v ∧ ∃ T, T ≤ 1250 ∧ PO (N * T) (7 * E2 + 20000) (64 * B) (p.drift (mkRat i 2) (mkRat j 2) (mkRat k 4) (mkRat u 2) (mkRat v 2) (mkRat w 4) (mkRat n 8)))) ∧
    ∀ lo h, callVL vp lo n_carry_Drift [.agg p.v, .list .s [frv (rv (mkRat i 2)) (rv (mkRat j 2)) (rv (mkRat k 4)) ++ frv (rv (mkRat u 2)) (rv (mkRat v 2)) (rv (mkRat w 4))], .agg (rv (mkRat n 8)), .agg (rv 0)] h = some (.tup [.agg q, .int .i64 e], h) := by
  obtain ⟨s1, s2⟩ := grip_at po hi hj hk hA (by omega) (by omega) (by omega)
  have ok := po.ok (by omega) (by omega) (by omega)
  by_cases hc : tOK (-mkRat k 4) p.t1 p.t2
  · simp only [if_pos hc] at s1
    obtain ⟨T, t0, t25, po2⟩ := s2 hc
    have hNT : N * T ≤ 7500 := Nat.le_trans (Nat.mul_le_mul hN t25) (by decide)
    have ok2 := po2.ok (by omega) (by omega) (by omega)
    have hW := Widen_spec ok2 (e := mkRat n 8) (t := 0) (mk_sq (by omega) (by decide) (by decide)) SQ.zero (mk_nn n0 (by decide)) Rat.le_refl
    have po3 := po2.wide n0 hn
    obtain ⟨r1, r2⟩ := put_at po3 hu hv hw hA2 (by omega) hE (by omega)
    have et1 : ((p.grip (mkRat i 2) (mkRat j 2) (mkRat k 4)).wide (mkRat n 8) 0).t1 = tN (-mkRat k 4) p.t1 := by
      show tN (-mkRat k 4) p.t1 - 0 = tN (-mkRat k 4) p.t1
      grind
    have et2 : ((p.grip (mkRat i 2) (mkRat j 2) (mkRat k 4)).wide (mkRat n 8) 0).t2 = tN (-mkRat k 4) p.t2 := Rat.add_zero _
    rw [et1, et2] at r1 r2
    by_cases hd : tOK (mkRat w 4) (tN (-mkRat k 4) p.t1) (tN (-mkRat k 4) p.t2)
    · simp only [if_pos hd] at r1
      obtain ⟨T', t0', t25', po4⟩ := r2 hd
      have := Drift_of (e := 0) (e' := 0) frv_x frv_x ⟨_, .inl rfl⟩ ok (by rw [if_pos rfl]; exact s1) (fun _ => hW) (fun _ => r1)
      refine ⟨_, _, .inr ⟨rfl, ⟨hc, hd⟩, rfl, 2 * T * T', ?_, ?_⟩, this⟩
      · have := Nat.mul_le_mul t25 t25'
        rw [Nat.mul_assoc]; omega
      · rw [show N * (2 * T * T') = 2 * (N * T) * T' by rw [← Nat.mul_assoc, ← Nat.mul_assoc, Nat.mul_comm N 2, Nat.mul_assoc 2 N T], show 64 * B = 8 * (8 * B) by omega]
        exact po4
    · simp only [if_neg hd] at r1
      have := Drift_of (e := 0) (e' := 18) frv_x frv_x ⟨p, .inr rfl⟩ ok (by rw [if_pos rfl]; exact s1) (fun _ => hW) (fun _ => r1)
      exact ⟨_, _, .inl ⟨rfl, rfl, fun h => hd h.2⟩, this⟩
  · simp only [if_neg hc] at s1
    have := Drift_of (r := p) (w := p) (qv := Po.nz) (by' := mkRat n 8) (e := 18) (e' := 18) frv_x (frv_x (u := mkRat u 2) (v := mkRat v 2) (w := mkRat w 4)) ⟨p, .inr rfl⟩ ok (by rw [if_neg (by decide)]; exact s1) (fun h => absurd h (by decide)) (fun h => absurd h (by decide))
    exact ⟨_, _, .inl ⟨rfl, rfl, fun h => hc h.1⟩, this⟩
theorem rM_sub {k a b a' b' : Rat} (h1 : a' ≤ a) (h2 : a ≤ b) (h3 : b ≤ b') : rM1 k a' b' ≤ rM1 k a b ∧ rM2 k a b ≤ rM2 k a' b' := by
  have x := rM_in (k := k) h1 (Rat.le_trans h2 h3)
  have y := rM_in (k := k) (Rat.le_trans h1 h2) h3
  constructor
  · rcases rM1_cases k a b with e | e <;> rw [e]
    · exact x.1
    · exact y.1
  · rcases rM2_cases k a b with e | e <;> rw [e]
    · exact x.2
    · exact y.2
/-- A carry keeps that bounds lie within others. -/
theorem put_sub {p q : Po} {gx gy gt : Rat} (hx : p.x1 ≤ p.x2) (hy : p.y1 ≤ p.y2) (h : p.Sub q) (e1 : p.t1 = q.t1) (e2 : p.t2 = q.t2) : (p.put gx gy gt).Sub (q.put gx gy gt) := by
  obtain ⟨⟨⟨a1, a2⟩, a3, a4⟩, -⟩ := h
  have c1 := rM_sub (k := cosF (gt * gt)) a1 hx a2
  have c2 := rM_sub (k := sinF gt) a1 hx a2
  have c3 := rM_sub (k := cosF (gt * gt)) a3 hy a4
  have c4 := rM_sub (k := sinF gt) a3 hy a4
  unfold Po.Sub Po.put rX1 rX2 rY1 rY2
  simp only []
  rw [e1, e2]
  exact ⟨⟨⟨by grind, by grind⟩, by grind, by grind⟩, Rat.le_refl, Rat.le_refl⟩
theorem wide_sub {p : Po} {e f : Rat} (h : e ≤ f) : (p.wide e 0).Sub (p.wide f 0) := by
  unfold Po.Sub Po.wide
  simp only []
  exact ⟨⟨⟨by grind, by grind⟩, by grind, by grind⟩, Rat.le_refl, Rat.le_refl⟩
end Vg.G3
namespace Vg.G3
open Go Lg Vg.Nm
set_option linter.unusedSimpArgs false
set_option linter.unusedVariables false
set_option maxRecDepth 10000
set_option maxHeartbeats 8000000
attribute [local congr] bind_congr1
attribute [local go_sem] gantkeep4_CarryWider_r0 gantkeep4_CarryWider_r1 gantkeep4_CarryWider_r2 gantkeep4_CarryWider_r3 gantkeep4_CarryWider_r4 gantkeep4_CarryWider_r4_d gantkeep4_CarryWider_r5 gantkeep4_CarryWider_r5_d gantkeep4_CarryWider_r6 gantkeep4_CarryWider_r6_d gantkeep4_CarryWider_r7 gantkeep4_CarryWider_r8 gantkeep4_CarryWider_r9 gantkeep4_CarryWider_r10 gantkeep4_CarryWider_f gantkeep4_CarryWider_v

/-- The law CarryWider. -/
theorem CarryWider_law (a m n : List Int) (by' more : Int) (lo : Nat) (h : VHeap) : callVL vp lo n_gantkeep4_CarryWider [.list .s (a.map fun x => [.int .i64 x]), .list .s (m.map fun x => [.int .i64 x]), .list .s (n.map fun x => [.int .i64 x]), .int .i64 by', .int .i64 more] h = some (.bool true, h) := by
  refine call_valE (fn := gantkeep4_CarryWider_v) rfl rfl rfl rfl rfl ?_ lo h
  obtain ⟨p, gp, hp⟩ := Pose_spec a
  obtain ⟨i, j, k, i1, i2, j1, j2, k1, k2, hF⟩ := Frame_spec m
  obtain ⟨u, v, w, u1, u2, v1, v2, w1, w2, hG⟩ := Frame_spec n
  have po := gp.po
  have hB1 := Below_spec by' 9 (by decide)
  have bb1 := belowP_bnd by' 9 (by decide) (by decide)
  have hB2 := Below_spec more 9 (by decide)
  have bb2 := belowP_bnd more 9 (by decide) (by decide)
  generalize belowP by' 9 = eb at *
  generalize belowP more 9 = tb at *
  have o1 := OfM_spec (k := eb) (d := 8) (by omega) (by decide) (by decide)
  have o2 := OfM_spec (k := eb + tb) (d := 8) (by omega) (by decide) (by decide)
  rw [show ((8 : Nat) : Int) = 8 from rfl] at o1 o2
  have hw : IntKind.i64.wrap (eb + tb) = eb + tb := wrap_id (by omega) (by omega)
  have o0 := Of0Q_spec
  have hc := carried_spec
  obtain ⟨q, e, hq, hC⟩ := Carry_at po (i := i) (j := j) (k := k) (u := u) (v := v) (w := w) (E := 7250) (E2 := 10150) (by omega) (by omega) (by omega) (by omega) (by omega) (by omega) (by decide) (by decide) (by decide) (by decide) (by decide)
  have D := fun (c : Int) (c0 : 0 ≤ c) (c1 : c ≤ 16) => Drift_at po (i := i) (j := j) (k := k) (u := u) (v := v) (w := w) (n := c) (E := 7250) (E2 := 11150) (by omega) (by omega) (by omega) (by omega) (by omega) (by omega) c0 c1 (by decide) (by decide) (by decide) (by decide) (by decide)
  obtain ⟨q1, f1, hq1, hD1⟩ := D eb (by omega) (by omega)
  obtain ⟨q2, f2, hq2, hD2⟩ := D (eb + tb) (by omega) (by omega)
  obtain ⟨q3, f3, hq3, hD3⟩ := D 0 (by omega) (by omega)
  clear D
  rw [mk_zero] at hD3 hq3
  obtain ⟨z1, z2, z3, ze⟩ := rvx (0 : Rat)
  obtain ⟨x1, x2, x3, xe⟩ := rvx (mkRat eb 8)
  obtain ⟨y1, y2, y3, ye⟩ := rvx (mkRat (eb + tb) 8)
  obtain ⟨g1, g2, g3, g4, g5, g6, g7, g8, g9, ef⟩ := @frv_x (mkRat i 2) (mkRat j 2) (mkRat k 4)
  obtain ⟨l1, l2, l3, l4, l5, l6, l7, l8, l9, eg⟩ := @frv_x (mkRat u 2) (mkRat v 2) (mkRat w 4)
  by_cases hok : tOK (-mkRat k 4) p.t1 p.t2 ∧ tOK (mkRat w 4) (tN (-mkRat k 4) p.t1) (tN (-mkRat k 4) p.t2)
  · have nx : ∀ {P : Prop}, ¬ (tOK (-mkRat k 4) p.t1 p.t2 ∧ tOK (mkRat w 4) (tN (-mkRat k 4) p.t1) (tN (-mkRat k 4) p.t2)) → P := fun h => absurd hok h
    rcases hq1 with ⟨_, _, h1⟩ | ⟨rfl, -, rfl, T1, hT1, po1⟩
    · exact nx h1
    rcases hq2 with ⟨_, _, h1⟩ | ⟨rfl, -, rfl, T2, hT2, po2⟩
    · exact nx h1
    rcases hq3 with ⟨_, _, h1⟩ | ⟨rfl, -, rfl, T3, hT3, po3⟩
    · exact nx h1
    have hT : ∀ {T : Nat}, T ≤ 1250 → 1 * T ≤ 390625 := by intro T h; omega
    have ok1 := po1.ok (hT hT1) (by decide) (by decide)
    have ok2 := po2.ok (hT hT2) (by decide) (by decide)
    have ok3 := po3.ok (hT hT3) (by decide) (by decide)
    have e3 : p.drift (mkRat i 2) (mkRat j 2) (mkRat k 4) (mkRat u 2) (mkRat v 2) (mkRat w 4) 0 = (p.grip (mkRat i 2) (mkRat j 2) (mkRat k 4)).put (mkRat u 2) (mkRat v 2) (mkRat w 4) := by unfold Po.drift; rw [wide0]
    rcases hq with ⟨_, _, h1⟩ | ⟨rfl, -, -, rfl, T, hT, po4⟩
    · exact nx h1
    rw [← e3] at hC
    have ow := po.bx
    obtain ⟨T0, _, _, pg⟩ := (grip_at po (i := i) (j := j) (k := k) (E := 7250) (by omega) (by omega) (by omega) (by decide) (by decide) (by decide) (by decide)).2 hok.1
    have S : ∀ {c d : Rat}, 0 ≤ c → c ≤ d → (p.drift (mkRat i 2) (mkRat j 2) (mkRat k 4) (mkRat u 2) (mkRat v 2) (mkRat w 4) c).Sub (p.drift (mkRat i 2) (mkRat j 2) (mkRat k 4) (mkRat u 2) (mkRat v 2) (mkRat w 4) d) := fun {c d} h0 hcd => by
      have x := pg.bx.sx
      have y := pg.bx.sy
      exact put_sub (p := (p.grip (mkRat i 2) (mkRat j 2) (mkRat k 4)).wide c 0) (q := (p.grip (mkRat i 2) (mkRat j 2) (mkRat k 4)).wide d 0) (by show (p.grip _ _ _).x1 - c ≤ (p.grip _ _ _).x2 + c; grind) (by show (p.grip _ _ _).y1 - c ≤ (p.grip _ _ _).y2 + c; grind) (wide_sub hcd) rfl rfl
    have i1 := Inside_spec ok1 ok2
    rw [Po.inB_iff.2 (S (mk_nn (by omega) (by decide)) (mk_le (by decide) (by omega)))] at i1
    have i2 := Inside_spec ok3 ok1
    rw [Po.inB_iff.2 (S Rat.le_refl (mk_nn (by omega) (by decide)))] at i2
    have i3 := Same_spec ok3 ok3
    rw [Po.inB_iff.2 (S Rat.le_refl Rat.le_refl)] at i3
    clear S pg ow ok1 ok2 ok3 po po1 po2 po3 po4 nx hok e3
    generalize p.drift (mkRat i 2) (mkRat j 2) (mkRat k 4) (mkRat u 2) (mkRat v 2) (mkRat w 4) (mkRat eb 8) = Q1 at *
    generalize p.drift (mkRat i 2) (mkRat j 2) (mkRat k 4) (mkRat u 2) (mkRat v 2) (mkRat w 4) (mkRat (eb + tb) 8) = Q2 at *
    generalize p.drift (mkRat i 2) (mkRat j 2) (mkRat k 4) (mkRat u 2) (mkRat v 2) (mkRat w 4) 0 = Q3 at *
    obtain ⟨a1, a2, a3, a4, a5, a6, a7, a8, a9, a10, a11, a12, a13, a14, a15, a16, a17, a18, pe⟩ := p.vx
    obtain ⟨b1, b2, b3, b4, b5, b6, b7, b8, b9, b10, b11, b12, b13, b14, b15, b16, b17, b18, qe1⟩ := Q1.vx
    obtain ⟨c1, c2, c3, c4, c5, c6, c7, c8, c9, c10, c11, c12, c13, c14, c15, c16, c17, c18, qe2⟩ := Q2.vx
    obtain ⟨d1, d2, d3, d4, d5, d6, d7, d8, d9, d10, d11, d12, d13, d14, d15, d16, d17, d18, qe3⟩ := Q3.vx
    simp only [pe, qe1, qe2, qe3, ze, xe, ye, ef, eg, List.cons_append, List.nil_append, Bool.and_self] at hp hF hG o1 o2 o0 hC hD1 hD2 hD3 i1 i2 i3
    clear pe qe1 qe2 qe3 ze xe ye ef eg
    simp -implicitDefEqProofs only [go_sem, ↓reduceIte, reduceCtorEq, Int.reduceLT, Int.reduceLE, Int.reduceToNat, Nat.reduceAdd, Nat.reduceMul, Nat.reduceLeDiff, Nat.reduceLT, Nat.reduceSub, Int.reduceNeg, Int.reduceEq, Int.reduceBEq, Int.reduceBNe, Nat.reduceEqDiff, hp, hF, hG, hB1, hB2, hw, o1, o2, o0, hC, hD1, hD2, hD3, hc, i1, i2, i3]
  · have nx : ∀ {P : Prop}, (tOK (-mkRat k 4) p.t1 p.t2 ∧ tOK (mkRat w 4) (tN (-mkRat k 4) p.t1) (tN (-mkRat k 4) p.t2)) → P := fun h => absurd h hok
    rcases hq with ⟨rfl, rfl, -⟩ | ⟨_, h1, h2, _⟩
    rotate_left
    · exact nx ⟨h1, h2⟩
    rcases hq1 with ⟨rfl, rfl, -⟩ | ⟨_, h1, _⟩
    rotate_left
    · exact nx h1
    rcases hq2 with ⟨rfl, rfl, -⟩ | ⟨_, h1, _⟩
    rotate_left
    · exact nx h1
    rcases hq3 with ⟨rfl, rfl, -⟩ | ⟨_, h1, _⟩
    rotate_left
    · exact nx h1
    clear nx hok po gp
    obtain ⟨a1, a2, a3, a4, a5, a6, a7, a8, a9, a10, a11, a12, a13, a14, a15, a16, a17, a18, pe⟩ := p.vx
    simp only [pe, Po.nz_x, ze, xe, ye, ef, eg, List.cons_append, List.nil_append] at hp hF hG o1 o2 o0 hC hD1 hD2 hD3
    clear pe ze xe ye ef eg
    simp -implicitDefEqProofs only [go_sem, ↓reduceIte, reduceCtorEq, Int.reduceLT, Int.reduceLE, Int.reduceToNat, Nat.reduceAdd, Nat.reduceMul, Nat.reduceLeDiff, Nat.reduceLT, Nat.reduceSub, Int.reduceNeg, Int.reduceEq, Int.reduceBEq, Int.reduceBNe, Nat.reduceEqDiff, hp, hF, hG, hB1, hB2, hw, o1, o2, o0, hC, hD1, hD2, hD3, hc]
end Vg.G3
