import Derived.Test.YtpclbojoknhnlaaDoorVRB
namespace Vg.G3
open Go Lg Vg.Nm
set_option linter.unusedSimpArgs false
set_option linter.unusedVariables false
set_option maxRecDepth 10000
set_option maxHeartbeats 4000000
attribute [local congr] bind_congr1
attribute [local go_sem] gantkeep4_SeeLooks_r0 gantkeep4_SeeLooks_r1 gantkeep4_SeeLooks_r2 gantkeep4_SeeLooks_r3 gantkeep4_SeeLooks_r4 gantkeep4_SeeLooks_r4_d gantkeep4_SeeLooks_r5 gantkeep4_SeeLooks_r6 gantkeep4_SeeLooks_r7 gantkeep4_SeeLooks_r8 gantkeep4_SeeLooks_r9 gantkeep4_SeeLooks_r9_d gantkeep4_SeeLooks_f gantkeep4_SeeLooks_v

/-- One coordinate of a look: all in parts of 256. -/
structure LK (p1 p2 f g e : Int) : Prop where
  pl : -2000 ≤ p1
  ph : p2 ≤ 2000
  f1 : p1 ≤ f
  f2 : f ≤ p2
  e0 : 0 ≤ e
  e1 : e ≤ 600
  g1 : f - e ≤ g
  g2 : g ≤ f + e
theorem q256 {k : Int} (hk : k.natAbs < 268435456) : SQ (mkRat k 256) := mk_sq hk (by decide) (by decide)
theorem sc4 (k : Int) : mkRat k 4 = mkRat (64 * k) 256 := by rw [mk_scale (a := k) (D := 4) (E := 64) (by decide) (by decide), show ((64 : Nat) : Int) = 64 from rfl, Int.mul_comm]
theorem sc8 (k : Int) : mkRat k 8 = mkRat (32 * k) 256 := by rw [mk_scale (a := k) (D := 8) (E := 32) (by decide) (by decide), show ((32 : Nat) : Int) = 32 from rfl, Int.mul_comm]
theorem sc32 (k : Int) : mkRat k 32 = mkRat (8 * k) 256 := by rw [mk_scale (a := k) (D := 32) (E := 8) (by decide) (by decide), show ((8 : Nat) : Int) = 8 from rfl, Int.mul_comm]
theorem sc256 (k : Int) : mkRat k 256 = mkRat (2 * k) 512 := by rw [mk_scale (a := k) (D := 256) (E := 2) (by decide) (by decide), show ((2 : Nat) : Int) = 2 from rfl, Int.mul_comm]
/-- What is known after a look, of one coordinate. -/
structure QK (p1 p2 f e a b : Int) : Prop where
  ab : -3000 ≤ a ∧ b ≤ 3000
  af : a ≤ f
  fb : f ≤ b
  w : b - a ≤ e + e
  p1 : p1 ≤ a
  p2 : b ≤ p2
theorem LK.qk {p1 p2 f g e : Int} (k : LK p1 p2 f g e) : QK p1 p2 f e (max p1 (g - e)) (min p2 (g + e)) := by
  have := k.pl; have := k.ph; have := k.f1; have := k.f2; have := k.e0; have := k.e1; have := k.g1; have := k.g2
  exact ⟨by omega, by omega, by omega, by omega, by omega, by omega⟩
/-- The law SeeLooks. -/
theorem SeeLooks_law (a l m : List Int) (by' turn : Int) (lo : Nat) (h : VHeap) : callVL vp lo n_gantkeep4_SeeLooks [.list .s (a.map fun x => [.int .i64 x]), .list .s (l.map fun x => [.int .i64 x]), .list .s (m.map fun x => [.int .i64 x]), .int .i64 by', .int .i64 turn] h = some (.bool true, h) := by
  refine call_valE (fn := gantkeep4_SeeLooks_v) rfl rfl rfl rfl rfl ?_ lo h
  have hB1 := Below_spec by' 9 (by decide)
  have bb1 := belowP_bnd by' 9 (by decide) (by decide)
  have hB2 := Below_spec turn 5 (by decide)
  have bb2 := belowP_bnd turn 5 (by decide) (by decide)
  generalize belowP by' 9 = eb at *
  generalize belowP turn 5 = tb at *
  have o1 := OfM_spec (k := eb) (d := 4) (by omega) (by decide) (by decide)
  have o2 := OfM_spec (k := tb) (d := 8) (by omega) (by decide) (by decide)
  rw [show ((4 : Nat) : Int) = 4 from rfl] at o1
  rw [show ((8 : Nat) : Int) = 8 from rfl] at o2
  obtain ⟨p, gp, hp⟩ := Pose_spec a
  obtain ⟨x1, x2, y1, y2, t1, t2, pd, bx1, bx2, by1, by2, bt1, bt2⟩ := gp.pd
  obtain ⟨n1, n2, n3, n10, n18, n20, n28, n30, n38, hW, s1, s2, s3, hin⟩ := Within_in pd l
  have c1 := btw_bnd pd.x n10 n18
  have c2 := btw_bnd pd.y n20 n28
  have c3 := btw_bnd pd.t n30 n38
  have ep := pd.eq
  have ppx := pd.x
  have ppy := pd.y
  have ppt := pd.t
  clear hin pd
  generalize btw x1 x2 n1 = fx at *
  generalize btw y1 y2 n2 = fy at *
  generalize btw t1 t2 n3 = ft at *
  rw [show 8 * 4 = 32 from rfl] at *
  -- the look's frame
  have pg : PD 32 ⟨mkRat (fx - 8 * eb) 32, mkRat (fx + 8 * eb) 32, mkRat (fy - 8 * eb) 32, mkRat (fy + 8 * eb) 32, mkRat (ft - 4 * tb) 32, mkRat (ft + 4 * tb) 32⟩ (fx - 8 * eb) (fx + 8 * eb) (fy - 8 * eb) (fy + 8 * eb) (ft - 4 * tb) (ft + 4 * tb) :=
    ⟨rfl, by decide, by decide, by omega, by omega, by omega, by omega, by omega, by omega, by omega, by omega, by omega⟩
  obtain ⟨m1, m2, m3, m10, m18, m20, m28, m30, m38, hG, r1, r2, r3, hing⟩ := Within_in pg m
  have d1 := btw_bnd pg.x m10 m18
  have d2 := btw_bnd pg.y m20 m28
  have d3 := btw_bnd pg.t m30 m38
  clear hing pg
  generalize btw (fx - 8 * eb) (fx + 8 * eb) m1 = gx at *
  generalize btw (fy - 8 * eb) (fy + 8 * eb) m2 = gy at *
  generalize btw (ft - 4 * tb) (ft + 4 * tb) m3 = gt at *
  rw [show 8 * 32 = 256 from rfl] at *
  have ge4 : SQ (mkRat eb 4) := mk_sq (by omega) (by decide) (by decide)
  have gt8 : SQ (mkRat tb 8) := mk_sq (by omega) (by decide) (by decide)
  have u1 := SubQ_spec s1 ge4
  have u2 := AddQ_spec s1 ge4
  have u3 := SubQ_spec s2 ge4
  have u4 := AddQ_spec s2 ge4
  have u5 := SubQ_spec s3 gt8
  have u6 := AddQ_spec s3 gt8
  have sc : ∀ k : Int, mkRat k 4 = mkRat (8 * k) 32 := fun k => by rw [mk_scale (a := k) (D := 4) (E := 8) (by decide) (by decide), show ((8 : Nat) : Int) = 8 from rfl, Int.mul_comm]
  have sc' : ∀ k : Int, mkRat k 8 = mkRat (4 * k) 32 := fun k => by rw [mk_scale (a := k) (D := 8) (E := 4) (by decide) (by decide), show ((4 : Nat) : Int) = 4 from rfl, Int.mul_comm]
  have v1 : mkRat fx 32 - mkRat eb 4 = mkRat (fx - 8 * eb) 32 := by rw [sc, mk_sub (by decide)]
  have v2 : mkRat fx 32 + mkRat eb 4 = mkRat (fx + 8 * eb) 32 := by rw [sc, mk_add (by decide)]
  have v3 : mkRat fy 32 - mkRat eb 4 = mkRat (fy - 8 * eb) 32 := by rw [sc, mk_sub (by decide)]
  have v4 : mkRat fy 32 + mkRat eb 4 = mkRat (fy + 8 * eb) 32 := by rw [sc, mk_add (by decide)]
  have v5 : mkRat ft 32 - mkRat tb 8 = mkRat (ft - 4 * tb) 32 := by rw [sc', mk_sub (by decide)]
  have v6 : mkRat ft 32 + mkRat tb 8 = mkRat (ft + 4 * tb) 32 := by rw [sc', mk_add (by decide)]
  rw [v1] at u1
  rw [v2] at u2
  rw [v3] at u3
  rw [v4] at u4
  rw [v5] at u5
  rw [v6] at u6
  clear sc sc' v1 v2 v3 v4 v5 v6
  have e0 : 0 ≤ mkRat eb 4 := by rw [← mk_zero 4]; exact mk_le (by decide) bb1.1
  have t0 : 0 ≤ mkRat tb 8 := by rw [← mk_zero 8]; exact mk_le (by decide) bb2.1
  have kx : LK (64 * x1) (64 * x2) (8 * fx) gx (64 * eb) := ⟨by omega, by omega, by omega, by omega, by omega, by omega, by omega, by omega⟩
  have ky : LK (64 * y1) (64 * y2) (8 * fy) gy (64 * eb) := ⟨by omega, by omega, by omega, by omega, by omega, by omega, by omega, by omega⟩
  have kt : LK (64 * t1) (64 * t2) (8 * ft) gt (32 * tb) := ⟨by omega, by omega, by omega, by omega, by omega, by omega, by omega, by omega⟩
  have gpo := gp.ok
  rw [sc4, sc4, sc4, sc4, sc4, sc4] at ep
  rw [sc4 eb] at *
  rw [sc8 tb] at *
  rw [sc32 fx] at *
  rw [sc32 fy] at *
  rw [sc32 ft] at *
  clear gp bb1 bb2 bx1 bx2 by1 by2 bt1 bt2 c1 c2 c3 ppx ppy ppt d1 d2 d3 n10 n18 n20 n28 n30 n38 m10 m18 m20 m28 m30 m38
  generalize 64 * eb = E at *
  generalize 32 * tb = T at *
  generalize 64 * x1 = X1 at *
  generalize 64 * x2 = X2 at *
  generalize 64 * y1 = Y1 at *
  generalize 64 * y2 = Y2 at *
  generalize 64 * t1 = T1 at *
  generalize 64 * t2 = T2 at *
  generalize 8 * fx = FX at *
  generalize 8 * fy = FY at *
  generalize 8 * ft = FT at *
  have h256 : (256 : Nat) ≠ 0 := by decide
  have hWd : (Po.mk (mkRat gx 256) (mkRat gx 256) (mkRat gy 256) (mkRat gy 256) (mkRat gt 256) (mkRat gt 256)).wide (mkRat E 256) (mkRat T 256) = ⟨mkRat (gx - E) 256, mkRat (gx + E) 256, mkRat (gy - E) 256, mkRat (gy + E) 256, mkRat (gt - T) 256, mkRat (gt + T) 256⟩ := by
    unfold Po.wide; simp only [mk_sub h256, mk_add h256]
  have sp : ∀ {p1 p2 f g e : Int}, LK p1 p2 f g e → SP (mkRat (g - e) 256) (mkRat (g + e) 256) := fun k => by
    have := k.pl; have := k.ph; have := k.f1; have := k.f2; have := k.e0; have := k.e1; have := k.g1; have := k.g2
    exact mk_sp (by omega) (by omega) (by omega) h256 (by decide)
  have wok : (Po.mk (mkRat (gx - E) 256) (mkRat (gx + E) 256) (mkRat (gy - E) 256) (mkRat (gy + E) 256) (mkRat (gt - T) 256) (mkRat (gt + T) 256)).ok := ⟨sp kx, sp ky, sp kt⟩
  have hq : p.meet ⟨mkRat (gx - E) 256, mkRat (gx + E) 256, mkRat (gy - E) 256, mkRat (gy + E) 256, mkRat (gt - T) 256, mkRat (gt + T) 256⟩ = ⟨mkRat (max X1 (gx - E)) 256, mkRat (min X2 (gx + E)) 256, mkRat (max Y1 (gy - E)) 256, mkRat (min Y2 (gy + E)) 256, mkRat (max T1 (gt - T)) 256, mkRat (min T2 (gt + T)) 256⟩ := by
    rw [ep]; unfold Po.meet; simp only [maxQ_mk h256, minQ_mk h256]
  have zx := kx.qk
  have zy := ky.qk
  have zt := kt.qk
  have hmt : p.Mt ⟨mkRat (gx - E) 256, mkRat (gx + E) 256, mkRat (gy - E) 256, mkRat (gy + E) 256, mkRat (gt - T) 256, mkRat (gt + T) 256⟩ := by
    rw [ep]; unfold Po.Mt; simp only [maxQ_mk h256, minQ_mk h256, mk_le_iff h256]
    exact ⟨⟨Int.le_trans zx.af zx.fb, Int.le_trans zy.af zy.fb⟩, Int.le_trans zt.af zt.fb⟩
  have hL := Look_spec gpo r1 r2 r3 ge4 gt8 e0 t0 (by rw [hWd]; exact wok)
  rw [hWd, if_pos (Po.meets_iff.2 hmt), if_pos (Po.meets_iff.2 hmt)] at hL
  have gq := meet_ok gpo wok hmt
  have hI := Inside_spec gq gpo
  rw [Po.inB_iff.2 meet_sub1] at hI
  rw [hq] at hL gq hI
  have bE0 := kx.e0; have bE := kx.e1; have bT0 := kt.e0; have bT := kt.e1
  clear hq hWd wok hmt sp e0 t0 kx ky kt
  generalize max X1 (gx - E) = QX1 at *
  generalize min X2 (gx + E) = QX2 at *
  generalize max Y1 (gy - E) = QY1 at *
  generalize min Y2 (gy + E) = QY2 at *
  generalize max T1 (gt - T) = QT1 at *
  generalize min T2 (gt + T) = QT2 at *
  obtain ⟨⟨ax, bx⟩, fx1, fx2, wx, _, _⟩ := zx
  obtain ⟨⟨ay, byy⟩, fy1, fy2, wy, _, _⟩ := zy
  obtain ⟨⟨aT, bT⟩, ft1, ft2, wt, _, _⟩ := zt
  have hH := Has_spec gq s1.fq s2.fq s3.fq
  have inf : (Po.mk (mkRat QX1 256) (mkRat QX2 256) (mkRat QY1 256) (mkRat QY2 256) (mkRat QT1 256) (mkRat QT2 256)).In (mkRat FX 256) (mkRat FY 256) (mkRat FT 256) :=
    ⟨⟨⟨mk_le h256 fx1, mk_le h256 fx2⟩, mk_le h256 fy1, mk_le h256 fy2⟩, mk_le h256 ft1, mk_le h256 ft2⟩
  rw [Po.has_iff.2 inf] at hH
  have hD := Width_spec gq (by simp only [mk_sub h256]; exact q256 (by omega)) (by simp only [mk_sub h256]; exact q256 (by omega))
  simp only [mk_sub h256, maxQ_mk h256] at hD
  have gw : SQ (mkRat (max (QX2 - QX1) (QY2 - QY1)) 256) := q256 (by omega)
  have gv : SQ (mkRat (QT2 - QT1) 256) := q256 (by omega)
  have hE2 := AddQ_spec ge4 ge4
  have hT2 := AddQ_spec gt8 gt8
  rw [mk_add h256] at hE2 hT2
  have gE2 : SQ (mkRat (E + E) 256) := q256 (by omega)
  have gT2 : SQ (mkRat (T + T) 256) := q256 (by omega)
  have cw := CmpQ_spec gw gE2
  have cv := CmpQ_spec gv gT2
  have lw : cmpQ (mkRat (max (QX2 - QX1) (QY2 - QY1)) 256) (mkRat (E + E) 256) ≤ 0 := cmpQ_le.2 (mk_le h256 (by omega))
  have lv : cmpQ (mkRat (QT2 - QT1) 256) (mkRat (T + T) 256) ≤ 0 := cmpQ_le.2 (mk_le h256 (by omega))
  have hM := Middle_spec gq (by simp only [mk_add h256]; exact q256 (by omega)) (by simp only [mk_add h256]; exact q256 (by omega)) (by simp only [mk_add h256]; exact q256 (by omega))
  simp only [mid_mk h256] at hM
  have sq5 : ∀ k : Int, k.natAbs < 268435456 → SQ (mkRat k (256 * 2)) := fun k hk => mk_sq hk (by decide) (by decide)
  have hHm := Has_spec gq (sq5 (QX1 + QX2) (by omega)).fq (sq5 (QY1 + QY2) (by omega)).fq (sq5 (QT1 + QT2) (by omega)).fq
  have lm : ∀ {a b : Int}, a ≤ b → mkRat a 256 ≤ mkRat (a + b) (256 * 2) ∧ mkRat (a + b) (256 * 2) ≤ mkRat b 256 := fun {a b} h => by
    rw [sc256 a, sc256 b]
    exact ⟨mk_le (by decide) (by omega), mk_le (by decide) (by omega)⟩
  have inm : (Po.mk (mkRat QX1 256) (mkRat QX2 256) (mkRat QY1 256) (mkRat QY2 256) (mkRat QT1 256) (mkRat QT2 256)).In (mkRat (QX1 + QX2) (256 * 2)) (mkRat (QY1 + QY2) (256 * 2)) (mkRat (QT1 + QT2) (256 * 2)) :=
    ⟨⟨lm (by omega), lm (by omega)⟩, lm (by omega)⟩
  rw [Po.has_iff.2 inm] at hHm
  have hS := seen_spec
  clear inm inf lm sq5 gw gv gE2 gT2 gq gpo ep s1 s2 s3 r1 r2 r3 ge4 gt8
  unfold Po.v frv at hG
  generalize (Po.mk (mkRat QX1 256) (mkRat QX2 256) (mkRat QY1 256) (mkRat QY2 256) (mkRat QT1 256) (mkRat QT2 256)) = q at *
  generalize mkRat FX 256 = f1 at *
  generalize mkRat FY 256 = f2 at *
  generalize mkRat FT 256 = f3 at *
  generalize mkRat gx 256 = g1 at *
  generalize mkRat gy 256 = g2 at *
  generalize mkRat gt 256 = g3 at *
  generalize mkRat (E + E) 256 = EE at *
  generalize mkRat (T + T) 256 = TT at *
  generalize mkRat E 256 = ee at *
  generalize mkRat T 256 = tt at *
  generalize mkRat (max (QX2 - QX1) (QY2 - QY1)) 256 = ww at *
  generalize mkRat (QT2 - QT1) 256 = wv at *
  generalize mkRat (QX1 + QX2) (256 * 2) = m1' at *
  generalize mkRat (QY1 + QY2) (256 * 2) = m2' at *
  generalize mkRat (QT1 + QT2) (256 * 2) = m3' at *
  generalize mkRat (fx - 8 * eb) 32 = k1 at *
  generalize mkRat (fx + 8 * eb) 32 = k2 at *
  generalize mkRat (fy - 8 * eb) 32 = k3 at *
  generalize mkRat (fy + 8 * eb) 32 = k4 at *
  generalize mkRat (ft - 4 * tb) 32 = k5 at *
  generalize mkRat (ft + 4 * tb) 32 = k6 at *
  obtain ⟨b0', x0', y0', h0'⟩ := rvx f1
  obtain ⟨b1', x1', y1', h1'⟩ := rvx f2
  obtain ⟨b2', x2', y2', h2'⟩ := rvx f3
  obtain ⟨b3', x3', y3', h3'⟩ := rvx g1
  obtain ⟨b4', x4', y4', h4'⟩ := rvx g2
  obtain ⟨b5', x5', y5', h5'⟩ := rvx g3
  obtain ⟨b6', x6', y6', h6'⟩ := rvx ee
  obtain ⟨b7', x7', y7', h7'⟩ := rvx tt
  obtain ⟨b8', x8', y8', h8'⟩ := rvx EE
  obtain ⟨b9', x9', y9', h9'⟩ := rvx TT
  obtain ⟨b10', x10', y10', h10'⟩ := rvx ww
  obtain ⟨b11', x11', y11', h11'⟩ := rvx wv
  obtain ⟨b12', x12', y12', h12'⟩ := rvx m1'
  obtain ⟨b13', x13', y13', h13'⟩ := rvx m2'
  obtain ⟨b14', x14', y14', h14'⟩ := rvx m3'
  obtain ⟨b15', x15', y15', h15'⟩ := rvx k1
  obtain ⟨b16', x16', y16', h16'⟩ := rvx k2
  obtain ⟨b17', x17', y17', h17'⟩ := rvx k3
  obtain ⟨b18', x18', y18', h18'⟩ := rvx k4
  obtain ⟨b19', x19', y19', h19'⟩ := rvx k5
  obtain ⟨b20', x20', y20', h20'⟩ := rvx k6
  obtain ⟨a1, a2, a3, a4, a5, a6, a7, a8, a9, a10, a11, a12, a13, a14, a15, a16, a17, a18, pe⟩ := p.vx
  obtain ⟨c1, c2, c3, c4, c5, c6, c7, c8, c9, c10, c11, c12, c13, c14, c15, c16, c17, c18, qe⟩ := q.vx
  unfold frv at hW hL hH hM hHm
  simp only [h0', h1', h2', h3', h4', h5', h6', h7', h8', h9', h10', h11', h12', h13', h14', h15', h16', h17', h18', h19', h20', pe, qe, List.cons_append, List.nil_append] at hp hW hG o1 o2 u1 u2 u3 u4 u5 u6 hL hI hH hD hE2 hT2 cw cv hM hHm
  clear h0' h1' h2' h3' h4' h5' h6' h7' h8' h9' h10' h11' h12' h13' h14' h15' h16' h17' h18' h19' h20' pe qe
  simp -implicitDefEqProofs only [go_sem, ↓reduceIte, reduceCtorEq, Int.reduceLT, Int.reduceLE, Int.reduceToNat, Nat.reduceAdd, Nat.reduceMul, Nat.reduceLeDiff, Nat.reduceLT, Nat.reduceSub, Int.reduceNeg, Int.reduceEq, Int.reduceBEq, Int.reduceBNe, Nat.reduceEqDiff, hB1, hB2, o1, o2, hp, hW, u1, u2, u3, u4, u5, u6, hG, hL, hS, hH, hI, hD, hE2, hT2, cw, cv, lw, lv, hM, hHm]
end Vg.G3
