import Derived.Test.YtpclbojoknhnlaaDoorVD3
namespace Vg.G3
open Go Lg Vg.Nm
set_option linter.unusedSimpArgs false
set_option linter.unusedVariables false
set_option maxRecDepth 10000
set_option maxHeartbeats 4000000

/-! What CarryTrue needs of numbers. -/
theorem tOK_mid {a s1 s s2 : Rat} (h : tOK a s1 s2) (h1 : s1 ≤ s) (h2 : s ≤ s2) : tOK a s1 s ∧ tOK a s s2 ∧ 1 - a * s ≠ 0 := by
  unfold tOK at *
  have m : (1 - a * s1 ≤ 1 - a * s ∧ 1 - a * s ≤ 1 - a * s2) ∨ (1 - a * s2 ≤ 1 - a * s ∧ 1 - a * s ≤ 1 - a * s1) := by
    rcases (Rat.le_total : (0 : Rat) ≤ a ∨ a ≤ 0) with ha | ha
    · have x := Rat.mul_le_mul_of_nonneg_left h1 ha
      have y := Rat.mul_le_mul_of_nonneg_left h2 ha
      exact .inr ⟨by grind, by grind⟩
    · have x := Rat.mul_le_mul_of_nonneg_left h1 (show 0 ≤ -a by grind)
      have y := Rat.mul_le_mul_of_nonneg_left h2 (show 0 ≤ -a by grind)
      exact .inl ⟨by grind, by grind⟩
  generalize 1 - a * s1 = A at *
  generalize 1 - a * s2 = B at *
  generalize 1 - a * s = M at *
  have key : (0 < A ∧ 0 < B) ∨ (A < 0 ∧ B < 0) := by
    by_cases hA : 0 < A
    · refine .inl ⟨hA, Rat.not_le.1 fun h0 => ?_⟩
      have := Rat.mul_nonneg (Rat.le_of_lt hA) (show 0 ≤ -B by grind)
      grind
    · have hA' : A ≤ 0 := Rat.not_lt.1 hA
      have hB : B < 0 := by
        refine Rat.not_le.1 fun h0 => ?_
        have := Rat.mul_nonneg (show 0 ≤ -A by grind) h0
        grind
      refine .inr ⟨?_, hB⟩
      rcases Rat.le_iff_lt_or_eq.1 hA' with h0 | h0
      · exact h0
      · rw [h0] at h; simp at h
  rcases key with ⟨hA, hB⟩ | ⟨hA, hB⟩
  · have hM : 0 < M := by
      rcases m with m | m
      · grind
      · grind
    exact ⟨Rat.mul_pos hA hM, Rat.mul_pos hM hB, fun h => by rw [h] at hM; exact absurd hM (by decide)⟩
  · have hM : M < 0 := by
      rcases m with m | m
      · grind
      · grind
    have x := Rat.mul_pos (show 0 < -A by grind) (show 0 < -M by grind)
    have y := Rat.mul_pos (show 0 < -M by grind) (show 0 < -B by grind)
    exact ⟨by grind, by grind, fun h => by rw [h] at hM; exact absurd hM (by decide)⟩
theorem tN_in {a s1 s s2 : Rat} (h : tOK a s1 s2) (h1 : s1 ≤ s) (h2 : s ≤ s2) : tN a s1 ≤ tN a s ∧ tN a s ≤ tN a s2 :=
  ⟨tN_mono h1 (tOK_mid h h1 h2).1, tN_mono h2 (tOK_mid h h1 h2).2.1⟩
theorem tN_comm {a b : Rat} : tN a b = tN b a := by
  unfold tN
  rw [Rat.add_comm, Rat.mul_comm]
theorem TS.tn {B : Nat} {s : Rat} {i : Int} (h : TS B s) (hi : i.natAbs ≤ 4) (hB : B ≤ 20000000) : SQ (tN (mkRat i 4) s) := by
  by_cases hd : 1 - mkRat i 4 * s = 0
  · unfold tN
    rw [hd, Rat.div_def, Rat.inv_zero, Rat.mul_zero]
    exact SQ.zero
  · exact (h.next hi hd).sq (by omega)
theorem QX.vt {N E : Nat} {x y t : Rat} (hx : QX N (5 * E) x) (hy : QX N (5 * E) y) (h0 : N ≠ 0) (tm : TM t) (tq : TQ t) (hN : N ≤ 15625) (hE : 7 * E ≤ 300000) : VT x y t ∧ ∃ T, T ≠ 0 ∧ T ≤ 25 ∧ QX (N * T) (7 * E) (trX x y t) ∧ QX (N * T) (7 * E) (trY x y t) := by
  obtain ⟨n, m, T, hT, hT2, hc, hs, hn⟩ := tm
  have hNT : N * T ≤ 390625 := Nat.le_trans (Nat.mul_le_mul hN hT2) (by decide)
  have z := QX.zero N (5 * E)
  have c1 : ∀ {x : Rat}, QX N (5 * E) x → SQ (x * cosF (t * t)) := fun {x} hx => by
    have := (QX.turn hT hc hs hn hx z h0).1
    rw [show cosF (t * t) * x - sinF t * 0 = x * cosF (t * t) by grind] at this
    exact this.sq (Nat.mul_ne_zero h0 hT) hNT hE
  have s1 : ∀ {x : Rat}, QX N (5 * E) x → SQ (x * sinF t) := fun {x} hx => by
    have := (QX.turn hT hc hs hn hx z h0).2
    rw [show sinF t * x + cosF (t * t) * 0 = x * sinF t by grind] at this
    exact this.sq (Nat.mul_ne_zero h0 hT) hNT hE
  have k := QX.turn hT hc hs hn hx hy h0
  refine ⟨⟨hx.sq h0 (by omega) (by omega), hy.sq h0 (by omega) (by omega), tq, by rw [hc]; exact mk_sq (by omega) hT (by omega), by rw [hs]; exact mk_sq (by omega) hT (by omega), c1 hx, s1 hy, s1 hx, c1 hy⟩, T, hT, hT2, ?_, ?_⟩
  · unfold trX
    rw [Rat.mul_comm x, Rat.mul_comm y]
    exact k.1
  · unfold trY
    rw [Rat.mul_comm x, Rat.mul_comm y]
    exact k.2
theorem tr_sub (x y a b t : Rat) : trX (0 - a) (0 - b) t + trX x y t = trX (x - a) (y - b) t ∧ trY (0 - a) (0 - b) t + trY x y t = trY (x - a) (y - b) t := by
  unfold trX trY
  generalize cosF (t * t) = c
  generalize sinF t = s
  exact ⟨by grind, by grind⟩
theorem grip_tr {p : Po} {x y gx gy gt : Rat} (h : p.B x y) : (p.grip gx gy gt).B (trX (x - gx) (y - gy) (-gt)) (trY (x - gx) (y - gy) (-gt)) := by
  have := grip_in (gx := gx) (gy := gy) (gt := gt) h
  unfold trX trY
  rw [Rat.mul_comm (x - gx), Rat.mul_comm (y - gy), Rat.mul_comm (x - gx), Rat.mul_comm (y - gy)]
  exact this
theorem put_tr {p : Po} {x y gx gy gt : Rat} (h : p.B x y) : (p.put gx gy gt).B (gx + trX x y gt) (gy + trY x y gt) := by
  have := put_in (gx := gx) (gy := gy) (gt := gt) h
  unfold trX trY
  rw [Rat.add_comm gx, Rat.add_comm gy, Rat.mul_comm x, Rat.mul_comm y, Rat.mul_comm x, Rat.mul_comm y]
  exact this
end Vg.G3
namespace Vg.G3
open Go Lg Vg.Nm
set_option linter.unusedSimpArgs false
set_option linter.unusedVariables false
set_option maxRecDepth 10000
set_option maxHeartbeats 8000000
attribute [local congr] bind_congr1
attribute [local go_sem] gantkeep4_CarryTrue_r0 gantkeep4_CarryTrue_r1 gantkeep4_CarryTrue_r2 gantkeep4_CarryTrue_r3 gantkeep4_CarryTrue_r4 gantkeep4_CarryTrue_r5 gantkeep4_CarryTrue_r5_d gantkeep4_CarryTrue_r6 gantkeep4_CarryTrue_r7 gantkeep4_CarryTrue_r8 gantkeep4_CarryTrue_r9 gantkeep4_CarryTrue_r10 gantkeep4_CarryTrue_r10_d gantkeep4_CarryTrue_r11 gantkeep4_CarryTrue_r12 gantkeep4_CarryTrue_r13 gantkeep4_CarryTrue_r13_d gantkeep4_CarryTrue_f gantkeep4_CarryTrue_v

/-- A frame that may be turned by half a turn. -/
def relv (x y a b : Rat) : List VV := ptv x y ++ thenT a b
theorem relv_x (x y a b : Rat) : ∃ b1 n1 d1 b2 n2 d2 c d e f, relv x y a b = [.bool b1, .str n1, .str d1, .bool b2, .str n2, .str d2, .bool c, .bool d, .str e, .str f] := by
  obtain ⟨c, d, e, f, h⟩ := thenT_x a b
  unfold relv
  rw [h]
  exact ⟨_, _, _, _, _, _, _, _, _, _, rfl⟩
theorem relv_frv {x y a b : Rat} (h : 1 - a * b ≠ 0) : relv x y a b = frv (rv x) (rv y) (rv (tN a b)) := by
  unfold relv thenT
  rw [if_neg h]
  rfl
open Classical in
/-- What CarryTrue computes, and what it finds. -/
structure TrueH (p : Po) (f g h : List VV) (R G C H K : List VV) (e1 e2 e3 : Int) : Prop where
  back : ∃ b1 n1 d1 b2 n2 d2 c d e f', G = [.bool b1, .str n1, .str d1, .bool b2, .str n2, .str d2, .bool c, .bool d, .str e, .str f'] ∧ (∀ lo h, callVL vp lo n_frame_Back [.agg g] h = some (.agg G, h)) ∧ ∀ lo h, callVL vp lo n_frame_Then [.agg G, .agg f] h = some (.agg R, h)
  rel : ∃ b1 n1 d1 b2 n2 d2 c d e f', R = [.bool b1, .str n1, .str d1, .bool b2, .str n2, .str d2, .bool c, .bool d, .str e, .str f']
  grip : ∃ q : List VV, (∃ p : Po, q = p.v ∨ q = Po.nz) ∧ (∀ lo h, callVL vp lo n_carry_Grip [.agg p.v, .agg g] h = some (.tup [.agg q, .int .i64 e1], h)) ∧ (e1 = 0 → ∀ lo h, callVL vp lo n_see_Has [.agg q, .agg R] h = some (.bool true, h))
  g18 : e1 = 0 ∨ e1 = 18
  carry : ∃ q : List VV, (∃ p : Po, q = p.v ∨ q = Po.nz) ∧ (∀ lo x, callVL vp lo n_carry_Carry [.agg p.v, .agg g, .agg h] x = some (.tup [.agg q, .int .i64 e2], x)) ∧ (e2 = 0 → ∀ lo h, callVL vp lo n_see_Has [.agg q, .agg H] h = some (.bool true, h))
  c18 : e2 = 0 ∨ e2 = 18
  thn : e2 = 0 → ((∃ b1 n1 d1 b2 n2 d2 c d e f', H = [.bool b1, .str n1, .str d1, .bool b2, .str n2, .str d2, .bool c, .bool d, .str e, .str f']) ∧ ∀ lo x, callVL vp lo n_frame_Then [.agg h, .agg R] x = some (.agg H, x))
  grasp : ∃ q : List VV, (∃ p : Po, q = p.v ∨ q = Po.nz) ∧ (∀ lo h, callVL vp lo n_carry_Grasp [.agg p.v, .agg g] h = some (.tup [.agg q, .int .i64 e3], h)) ∧ (e3 = 0 → ∀ lo h, callVL vp lo n_see_Has [.agg q, .agg K] h = some (.bool true, h))
  k18 : e3 = 0 ∨ e3 = 18
  thk : e3 = 0 → ((∃ b1 n1 d1 b2 n2 d2 c d e f', K = [.bool b1, .str n1, .str d1, .bool b2, .str n2, .str d2, .bool c, .bool d, .str e, .str f']) ∧ ∀ lo x, callVL vp lo n_frame_Then [.agg f, .agg g] x = some (.agg K, x))
theorem True_of {raw l m n : List Int} {p : Po} {f g h : List VV} {R G C H K : List VV} {e1 e2 e3 : Int} (t : TrueH p f g h R G C H K e1 e2 e3)
    (hp : ∀ lo h, callVL vp lo n_gantkeep4_Pose [.list .s (raw.map fun x => [.int .i64 x])] h = some (.agg p.v, h))
    (hW : ∀ lo h, callVL vp lo n_gantkeep4_Within [.agg p.v, .list .s (l.map fun x => [.int .i64 x])] h = some (.agg f, h))
    (hf : ∃ a1 a2 a3 a4 a5 a6 a7 a8 a9, f = [.bool a1, .str a2, .str a3, .bool a4, .str a5, .str a6, .bool false, .bool a7, .str a8, .str a9])
    (hg : ∃ a1 a2 a3 a4 a5 a6 a7 a8 a9, g = [.bool a1, .str a2, .str a3, .bool a4, .str a5, .str a6, .bool false, .bool a7, .str a8, .str a9])
    (hh : ∃ a1 a2 a3 a4 a5 a6 a7 a8 a9, h = [.bool a1, .str a2, .str a3, .bool a4, .str a5, .str a6, .bool false, .bool a7, .str a8, .str a9])
    (hm : ∀ lo h, callVL vp lo n_gantkeep4_Frame [.list .s (m.map fun x => [.int .i64 x])] h = some (.agg g, h))
    (hn : ∀ lo x, callVL vp lo n_gantkeep4_Frame [.list .s (n.map fun x => [.int .i64 x])] x = some (.agg h, x)) (lo : Nat) (hp' : VHeap) :
    callVL vp lo n_gantkeep4_CarryTrue [.list .s (raw.map fun x => [.int .i64 x]), .list .s (l.map fun x => [.int .i64 x]), .list .s (m.map fun x => [.int .i64 x]), .list .s (n.map fun x => [.int .i64 x])] hp' = some (.bool true, hp') := by
  have cr := carried_spec
  have fm : ∀ {q : List VV}, (∃ p : Po, q = p.v ∨ q = Po.nz) → ∃ b1 n1 d1 b2 n2 d2 b3 n3 d3 b4 n4 d4 b5 n5 d5 b6 n6 d6, q = [.bool b1, .str n1, .str d1, .bool b2, .str n2, .str d2, .bool b3, .str n3, .str d3, .bool b4, .str n4, .str d4, .bool b5, .str n5, .str d5, .bool b6, .str n6, .str d6] := fun h => by
    obtain ⟨p, rfl | rfl⟩ := h
    · exact p.vx
    · exact ⟨_, _, _, _, _, _, _, _, _, _, _, _, _, _, _, _, _, _, rfl⟩
  obtain ⟨_, _, _, _, _, _, _, _, _, _, rfl, hB, hT⟩ := t.back
  obtain ⟨_, _, _, _, _, _, _, _, _, _, rfl⟩ := t.rel
  obtain ⟨q1, hq1, hG, hGh⟩ := t.grip
  obtain ⟨q2, hq2, hC, hCh⟩ := t.carry
  obtain ⟨q3, hq3, hK, hKh⟩ := t.grasp
  obtain ⟨_, _, _, _, _, _, _, _, _, _, _, _, _, _, _, _, _, _, rfl⟩ := fm hq1
  obtain ⟨_, _, _, _, _, _, _, _, _, _, _, _, _, _, _, _, _, _, rfl⟩ := fm hq2
  obtain ⟨_, _, _, _, _, _, _, _, _, _, _, _, _, _, _, _, _, _, rfl⟩ := fm hq3
  have g18 := t.g18
  have c18 := t.c18
  have k18 := t.k18
  have thn := t.thn
  have thk := t.thk
  clear t hq1 hq2 hq3 fm
  obtain ⟨_, _, _, _, _, _, _, _, _, rfl⟩ := hf
  obtain ⟨_, _, _, _, _, _, _, _, _, rfl⟩ := hg
  obtain ⟨_, _, _, _, _, _, _, _, _, rfl⟩ := hh
  obtain ⟨a1, a2, a3, a4, a5, a6, a7, a8, a9, a10, a11, a12, a13, a14, a15, a16, a17, a18, pe⟩ := p.vx
  simp only [pe] at hp hW hG hC hK
  clear pe
  refine call_valE (fn := gantkeep4_CarryTrue_v) rfl rfl rfl rfl rfl ?_ lo hp'
  rcases g18 with rfl | rfl <;> rcases c18 with rfl | rfl <;> rcases k18 with rfl | rfl
  all_goals
    try have gh := hGh rfl
    try have ch := hCh rfl
    try have kh := hKh rfl
    try obtain ⟨⟨_, _, _, _, _, _, _, _, _, _, rfl⟩, tn⟩ := thn rfl
    try obtain ⟨⟨_, _, _, _, _, _, _, _, _, _, rfl⟩, tk⟩ := thk rfl
    clear hGh hCh hKh thn thk
  · simp -implicitDefEqProofs only [go_sem, ↓reduceIte, reduceCtorEq, Int.reduceLT, Int.reduceLE, Int.reduceToNat, Nat.reduceAdd, Nat.reduceMul, Nat.reduceLeDiff, Nat.reduceLT, Nat.reduceSub, Int.reduceNeg, Int.reduceEq, Int.reduceBEq, Int.reduceBNe, Nat.reduceEqDiff, hp, hW, hm, hn, cr, hB, hT, hG, hC, hK, gh, ch, kh, tn, tk]
  · simp -implicitDefEqProofs only [go_sem, ↓reduceIte, reduceCtorEq, Int.reduceLT, Int.reduceLE, Int.reduceToNat, Nat.reduceAdd, Nat.reduceMul, Nat.reduceLeDiff, Nat.reduceLT, Nat.reduceSub, Int.reduceNeg, Int.reduceEq, Int.reduceBEq, Int.reduceBNe, Nat.reduceEqDiff, hp, hW, hm, hn, cr, hB, hT, hG, hC, hK, gh, ch, tn]
  · simp -implicitDefEqProofs only [go_sem, ↓reduceIte, reduceCtorEq, Int.reduceLT, Int.reduceLE, Int.reduceToNat, Nat.reduceAdd, Nat.reduceMul, Nat.reduceLeDiff, Nat.reduceLT, Nat.reduceSub, Int.reduceNeg, Int.reduceEq, Int.reduceBEq, Int.reduceBNe, Nat.reduceEqDiff, hp, hW, hm, hn, cr, hB, hT, hG, hC, hK, gh, kh, tk]
  · simp -implicitDefEqProofs only [go_sem, ↓reduceIte, reduceCtorEq, Int.reduceLT, Int.reduceLE, Int.reduceToNat, Nat.reduceAdd, Nat.reduceMul, Nat.reduceLeDiff, Nat.reduceLT, Nat.reduceSub, Int.reduceNeg, Int.reduceEq, Int.reduceBEq, Int.reduceBNe, Nat.reduceEqDiff, hp, hW, hm, hn, cr, hB, hT, hG, hC, hK, gh]
  · simp -implicitDefEqProofs only [go_sem, ↓reduceIte, reduceCtorEq, Int.reduceLT, Int.reduceLE, Int.reduceToNat, Nat.reduceAdd, Nat.reduceMul, Nat.reduceLeDiff, Nat.reduceLT, Nat.reduceSub, Int.reduceNeg, Int.reduceEq, Int.reduceBEq, Int.reduceBNe, Nat.reduceEqDiff, hp, hW, hm, hn, cr, hB, hT, hG, hC, hK, ch, kh, tn, tk]
  · simp -implicitDefEqProofs only [go_sem, ↓reduceIte, reduceCtorEq, Int.reduceLT, Int.reduceLE, Int.reduceToNat, Nat.reduceAdd, Nat.reduceMul, Nat.reduceLeDiff, Nat.reduceLT, Nat.reduceSub, Int.reduceNeg, Int.reduceEq, Int.reduceBEq, Int.reduceBNe, Nat.reduceEqDiff, hp, hW, hm, hn, cr, hB, hT, hG, hC, hK, ch, tn]
  · simp -implicitDefEqProofs only [go_sem, ↓reduceIte, reduceCtorEq, Int.reduceLT, Int.reduceLE, Int.reduceToNat, Nat.reduceAdd, Nat.reduceMul, Nat.reduceLeDiff, Nat.reduceLT, Nat.reduceSub, Int.reduceNeg, Int.reduceEq, Int.reduceBEq, Int.reduceBNe, Nat.reduceEqDiff, hp, hW, hm, hn, cr, hB, hT, hG, hC, hK, kh, tk]
  · simp -implicitDefEqProofs only [go_sem, ↓reduceIte, reduceCtorEq, Int.reduceLT, Int.reduceLE, Int.reduceToNat, Nat.reduceAdd, Nat.reduceMul, Nat.reduceLeDiff, Nat.reduceLT, Nat.reduceSub, Int.reduceNeg, Int.reduceEq, Int.reduceBEq, Int.reduceBNe, Nat.reduceEqDiff, hp, hW, hm, hn, cr, hB, hT, hG, hC, hK]
end Vg.G3
namespace Vg.G3
open Go Lg Vg.Nm
set_option linter.unusedSimpArgs false
set_option linter.unusedVariables false
set_option maxRecDepth 10000
set_option maxHeartbeats 8000000

theorem QX.of2 {i : Int} (hi : i.natAbs ≤ 16) : QX 1 20000 (0 - mkRat i 2) := by
  refine ⟨-(i * (2 : Nat)), ?_, by omega⟩
  rw [show (0 : Rat) - mkRat i 2 = -mkRat i 2 by grind, neg_mkRat, mk_scale (a := -i) (D := 2) (E := 2) (by decide) (by decide)]
  congr 1
  omega
theorem has_of {p : Po} {x y t : Rat} (h1 : p.B x y) (h2 : p.t1 ≤ t) (h3 : t ≤ p.t2) : p.has x y t = true := Po.has_iff.2 ⟨h1, h2, h3⟩
open Classical in
/-- The law CarryTrue. -/
theorem CarryTrue_law (raw l m n : List Int) (lo : Nat) (h : VHeap) : callVL vp lo n_gantkeep4_CarryTrue [.list .s (raw.map fun x => [.int .i64 x]), .list .s (l.map fun x => [.int .i64 x]), .list .s (m.map fun x => [.int .i64 x]), .list .s (n.map fun x => [.int .i64 x])] h = some (.bool true, h) := by
  obtain ⟨p, gp, hp⟩ := Pose_spec raw
  obtain ⟨i, j, k, i1, i2, j1, j2, k1, k2, hF⟩ := Frame_spec m
  obtain ⟨u, v, w, u1, u2, v1, v2, w1, w2, hG⟩ := Frame_spec n
  have po := gp.po
  obtain ⟨x1, x2, y1, y2, t1, t2, pd, bx1, bx2, by1, by2, bt1, bt2⟩ := gp.pd
  obtain ⟨n1, n2, n3, n10, n18, n20, n28, n30, n38, hW, s1, s2, s3, hin⟩ := Within_in pd l
  have cx := btw_bnd pd.x n10 n18
  have cy := btw_bnd pd.y n20 n28
  have ct := btw_bnd pd.t n30 n38
  have px := pd.x
  have py := pd.y
  have pt := pd.t
  obtain ⟨c1, c2, z1, z2, HP, ctr⟩ := pose_pt pd bx1 bx2 by1 by2 bt1 bt2
  generalize btw x1 x2 n1 = a at *
  generalize btw y1 y2 n2 = b at *
  generalize btw t1 t2 n3 = c at *
  rw [show 8 * 4 = 32 from rfl] at *
  have hi : i.natAbs ≤ 16 := by omega
  have hj : j.natAbs ≤ 16 := by omega
  have hk : k.natAbs ≤ 4 := by omega
  have hu : u.natAbs ≤ 16 := by omega
  have hv : v.natAbs ≤ 16 := by omega
  have hw : w.natAbs ≤ 4 := by omega
  have qa : QX 8 16250 (mkRat a 32) := ⟨a, rfl, by omega⟩
  have qb : QX 8 16250 (mkRat b 32) := ⟨b, rfl, by omega⟩
  have tc : TS 80 (mkRat c 32) := ⟨c, 32, rfl, by decide, by omega, by decide⟩
  have hct := ctr (mkRat c 32) hin.2.1 hin.2.2
  have en : -mkRat k 4 = mkRat (-k) 4 := neg_mkRat _ _
  have tm : TM (-mkRat k 4) := by rw [en]; exact TM_mk (by omega) (by omega)
  have tq : TQ (-mkRat k 4) := by rw [en]; exact TQ_mk (by decide) (by omega) (by decide)
  have tmw : TM (mkRat w 4) := TM_mk (by omega) (by omega)
  have tqw : TQ (mkRat w 4) := TQ_mk (by decide) (by omega) (by decide)
  have si := fsq hi (d := 2) (by decide) (by decide)
  have sj := fsq hj (d := 2) (by decide) (by decide)
  have sk := fsq (i := k) (by omega) (d := 4) (by decide) (by decide)
  have su := fsq hu (d := 2) (by decide) (by decide)
  have sv := fsq hv (d := 2) (by decide) (by decide)
  have sw := fsq (i := w) (by omega) (d := 4) (by decide) (by decide)
  -- the part in the gripper
  obtain ⟨v0, T0, T00, T025, r0x, r0y⟩ := (QX.of2 hi).vt (E := 4000) (QX.of2 hj) (by decide) tm tq (by decide) (by decide)
  have hB := Back_spec si sj sk v0
  obtain ⟨v1, T1, T10, T125, r1x, r1y⟩ := QX.vt (E := 3250) qa qb (by decide) tm tq (by decide) (by decide)
  have tdr : TD (-mkRat k 4) (mkRat c 32) := by rw [en]; exact tc.td (by omega) (by decide)
  have tnr : SQ (tN (-mkRat k 4) (mkRat c 32)) := by rw [en]; exact tc.tn (by omega) (by decide)
  have hR := Then_spec (b := mkRat c 32) v1 (r0x.sq (Nat.mul_ne_zero (by decide) T00) (by omega) (by decide)) (r0y.sq (Nat.mul_ne_zero (by decide) T00) (by omega) (by decide)) (r1x.sq (Nat.mul_ne_zero (by decide) T10) (by omega) (by decide)) (r1y.sq (Nat.mul_ne_zero (by decide) T10) (by omega) (by decide)) s3 tdr tnr
  have ets := tr_sub (mkRat a 32) (mkRat b 32) (mkRat i 2) (mkRat j 2) (-mkRat k 4)
  rw [ets.1, ets.2] at hR
  have qf : QX 8 36250 (mkRat a 32 - mkRat i 2) := by rw [sub_neg_mk]; exact qa.shift (by decide) (by omega)
  have qg : QX 8 36250 (mkRat b 32 - mkRat j 2) := by rw [sub_neg_mk]; exact qb.shift (by decide) (by omega)
  obtain ⟨-, T2, T20, T225, r2x, r2y⟩ := QX.vt (E := 7250) qf qg (by decide) tm tq (by decide) (by decide)
  have N2 : 8 * T2 ≠ 0 := Nat.mul_ne_zero (by decide) T20
  obtain ⟨v3, T3, T30, T325, r3x, r3y⟩ := QX.vt (E := 10150) r2x r2y N2 tmw tqw (by omega) (by decide)
  have N3 : 8 * T2 * T3 ≠ 0 := Nat.mul_ne_zero N2 T30
  have N3b : 8 * T2 * T3 ≤ 390625 := Nat.le_trans (Nat.mul_le_mul (Nat.mul_le_mul_left 8 T225) T325) (by decide)
  have sRx := r2x.sq N2 (by omega) (by decide)
  have sRy := r2y.sq N2 (by omega) (by decide)
  have gin := grip_tr (gx := mkRat i 2) (gy := mkRat j 2) (gt := mkRat k 4) hin.1
  have pin := put_tr (gx := mkRat u 2) (gy := mkRat v 2) (gt := mkRat w 4) gin
  obtain ⟨hGr, hGo⟩ := grip_at po (i := i) (j := j) (k := k) (E := 7250) hi hj hk (by decide) (by decide) (by decide) (by decide)
  obtain ⟨q2, e2, hq2, hC⟩ := Carry_at po (i := i) (j := j) (k := k) (u := u) (v := v) (w := w) (E := 7250) (E2 := 10150) hi hj hk hu hv hw (by decide) (by decide) (by decide) (by decide) (by decide)
  -- the grasp
  have pg : ∀ {d : Int}, d.natAbs ≤ 16 → P120 (mkRat d 2) := fun {d} hd => ⟨d * 60, by rw [mk_scale (a := d) (D := 2) (E := 60) (by decide) (by decide)]; rfl, by omega⟩
  obtain ⟨ptt, b1, b2, b3, b4⟩ := HP (mkRat i 2) (mkRat j 2) (pg hi) (pg hj)
  have hK := Grasp_spec ptt (t := mkRat k 4) (po.ok (by decide) (by decide) (by decide)).t sk (po.ta.td hk (by decide)) (po.tb.td hk (by decide))
  obtain ⟨w1', w2', w3', w4', w5'⟩ := frame_pt (k := c) (a := a) (b := b) (x := mkRat i 2) (y := mkRat j 2) (by omega) (by omega) (by omega) (pg hi) (pg hj)
  have tdg := tc.td hk (by decide)
  have inp := point_in (x := mkRat i 2) (y := mkRat j 2) hin hct.1 hct.2
  have ok := po.ok (by decide) (by decide) (by decide)
  have hTk := Then_spec (b := mkRat k 4) w1' s1 s2 w2' w3' sk ⟨by rw [Rat.mul_comm]; exact tdg.m, by rw [Rat.add_comm]; exact tdg.n, by rw [Rat.mul_comm]; exact tdg.d⟩ (by rw [tN_comm]; exact tc.tn hk (by decide))
  obtain ⟨e1, he1⟩ : ∃ e1 : Int, e1 = if tOK (-mkRat k 4) p.t1 p.t2 then 0 else 18 := ⟨_, rfl⟩
  obtain ⟨e3, he3⟩ : ∃ e3 : Int, e3 = if tOK (mkRat k 4) p.t1 p.t2 then 0 else 18 := ⟨_, rfl⟩
  rw [← he1] at hGr
  rw [← he3] at hK
  have z1 : e1 = 0 → tOK (-mkRat k 4) p.t1 p.t2 := fun h => by
    rw [he1] at h
    by_cases hc : tOK (-mkRat k 4) p.t1 p.t2
    · exact hc
    · rw [if_neg hc] at h; exact absurd h (by decide)
  have z3 : e3 = 0 → tOK (mkRat k 4) p.t1 p.t2 := fun h => by
    rw [he3] at h
    by_cases hc : tOK (mkRat k 4) p.t1 p.t2
    · exact hc
    · rw [if_neg hc] at h; exact absurd h (by decide)
  have rgood : tOK (-mkRat k 4) p.t1 p.t2 → 1 - -mkRat k 4 * mkRat c 32 ≠ 0 := fun h => (tOK_mid h hin.2.1 hin.2.2).2.2
  have trel : tOK (-mkRat k 4) p.t1 p.t2 → TS 640 (tN (-mkRat k 4) (mkRat c 32)) := fun h => by
    have := tc.next (i := -k) (by omega) (by rw [← en]; exact rgood h)
    rw [← en] at this
    exact this
  refine True_of (p := p) (R := relv (trX (mkRat a 32 - mkRat i 2) (mkRat b 32 - mkRat j 2) (-mkRat k 4)) (trY (mkRat a 32 - mkRat i 2) (mkRat b 32 - mkRat j 2) (-mkRat k 4)) (-mkRat k 4) (mkRat c 32))
    (H := relv (mkRat u 2 + trX (trX (mkRat a 32 - mkRat i 2) (mkRat b 32 - mkRat j 2) (-mkRat k 4)) (trY (mkRat a 32 - mkRat i 2) (mkRat b 32 - mkRat j 2) (-mkRat k 4)) (mkRat w 4)) (mkRat v 2 + trY (trX (mkRat a 32 - mkRat i 2) (mkRat b 32 - mkRat j 2) (-mkRat k 4)) (trY (mkRat a 32 - mkRat i 2) (mkRat b 32 - mkRat j 2) (-mkRat k 4)) (mkRat w 4)) (mkRat w 4) (tN (-mkRat k 4) (mkRat c 32)))
    (K := relv (mkRat a 32 + trX (mkRat i 2) (mkRat j 2) (mkRat c 32)) (mkRat b 32 + trY (mkRat i 2) (mkRat j 2) (mkRat c 32)) (mkRat c 32) (mkRat k 4)) (C := []) (e1 := e1) (e2 := e2) (e3 := e3)
    ⟨⟨_, _, _, _, _, _, _, _, _, _, rfl, hB, hR⟩, relv_x _ _ _ _, ⟨_, ?_, hGr, ?_⟩, ?_, ⟨q2, ?_, hC, ?_⟩, ?_, ?_, ⟨_, ?_, hK, ?_⟩, ?_, fun _ => ⟨relv_x _ _ _ _, hTk⟩⟩ hp hW frv_x frv_x frv_x hF hG lo h
  · split
    · exact ⟨_, .inl rfl⟩
    · exact ⟨p, .inr rfl⟩
  · intro h0
    have hc := z1 h0
    obtain ⟨T, _, T25, pq⟩ := hGo hc
    rw [if_pos hc, relv_frv (rgood hc)]
    have okg := pq.ok (by omega) (by decide) (by decide)
    have hh := Has_spec okg sRx.fq sRy.fq ((trel hc).sq (by decide)).fq
    have ti := tN_in hc hin.2.1 hin.2.2
    rw [has_of gin ti.1 ti.2] at hh
    exact hh
  · rw [he1]; split
    · exact .inl rfl
    · exact .inr rfl
  · rcases hq2 with ⟨_, rfl, _⟩ | ⟨_, _, _, rfl, _⟩
    · exact ⟨p, .inr rfl⟩
    · exact ⟨_, .inl rfl⟩
  · intro h0
    rcases hq2 with ⟨h1, _⟩ | ⟨_, hc, hd, rfl, T, hT, pq⟩
    · rw [h1] at h0; exact absurd h0 (by decide)
    · have ti := tN_in hc hin.2.1 hin.2.2
      have tj := tN_in hd ti.1 ti.2
      rw [relv_frv (tOK_mid hd ti.1 ti.2).2.2]
      have okq := pq.ok (by omega) (by decide) (by decide)
      have hh := Has_spec okq (t := tN (mkRat w 4) (tN (-mkRat k 4) (mkRat c 32))) ((by rw [Rat.add_comm]; exact (r3x.shift N3 (g := u) hu).sq N3 N3b (by decide) : SQ (mkRat u 2 + trX _ _ (mkRat w 4))).fq) ((by rw [Rat.add_comm]; exact (r3y.shift N3 (g := v) hv).sq N3 N3b (by decide) : SQ (mkRat v 2 + trY _ _ (mkRat w 4))).fq) ((trel hc).tn hw (by decide)).fq
      rw [has_of pin tj.1 tj.2] at hh
      exact hh
  · rcases hq2 with ⟨h1, _⟩ | ⟨h1, _⟩
    · exact .inr h1
    · exact .inl h1
  · intro h0
    rcases hq2 with ⟨h1, _⟩ | ⟨_, hc, hd, _⟩
    · rw [h1] at h0; exact absurd h0 (by decide)
    · refine ⟨relv_x _ _ _ _, ?_⟩
      rw [relv_frv (rgood hc)]
      exact Then_spec v3 su sv (r3x.sq N3 N3b (by decide)) (r3y.sq N3 N3b (by decide)) ((trel hc).sq (by decide)) ((trel hc).td hw (by decide)) ((trel hc).tn hw (by decide))
  · split
    · exact ⟨_, .inl rfl⟩
    · exact ⟨p, .inr rfl⟩
  · intro h0
    have hc := z3 h0
    rw [if_pos hc]
    have ti := tN_in hc hin.2.1 hin.2.2
    have hz : 1 - mkRat c 32 * mkRat k 4 ≠ 0 := by rw [Rat.mul_comm]; exact (tOK_mid hc hin.2.1 hin.2.2).2.2
    rw [relv_frv hz, tN_comm (a := mkRat c 32)]
    have hh := Has_spec (p := ⟨_, _, _, _, _, _⟩) ⟨⟨b1, b2, Rat.le_trans inp.1.1 inp.1.2⟩, ⟨b3, b4, Rat.le_trans inp.2.1 inp.2.2⟩, ⟨po.ta.tn hk (by decide), po.tb.tn hk (by decide), tN_mono po.le hc⟩⟩ w4'.fq w5'.fq (tc.tn hk (by decide)).fq
    rw [has_of (p := ⟨_, _, _, _, _, _⟩) inp ti.1 ti.2] at hh
    exact hh
  · rw [he3]; split
    · exact .inl rfl
    · exact .inr rfl
end Vg.G3
