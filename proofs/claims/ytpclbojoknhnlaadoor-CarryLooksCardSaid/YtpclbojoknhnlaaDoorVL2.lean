import Derived.Test.YtpclbojoknhnlaaDoorVC4
namespace Vg.G3
open Go Lg Vg.Nm
set_option linter.unusedSimpArgs false
set_option linter.unusedVariables false
set_option maxRecDepth 10000
set_option maxHeartbeats 8000000
attribute [local congr] bind_congr1
attribute [local go_sem] carry_Looks_r0 carry_Looks_r1 carry_Looks_r1_d carry_Looks_f carry_Looks_v carry_place_1_r0 carry_place_1_r1 carry_place_1_r1_d carry_place_1_f carry_place_1_v carry_place_r0 carry_place_r1 carry_place_r1_d carry_place_r2 carry_place_r3 carry_place_r3_d carry_place_f carry_place_v span_Meet_r0 span_Meet_r1 span_Meet_r1_d span_Meet_r2 span_Meet_f span_Meet_v carry_Need_r0 carry_Need_r1 carry_Need_r2 carry_Need_r3 carry_Need_r4 carry_Need_r5 carry_Need_r6 carry_Need_r7 carry_Need_f carry_Need_v

/-- A slot's value. -/
def slv (nm : List UInt8) (x y t e : Rat) : List VV := VV.str nm :: (frv (rv x) (rv y) (rv t) ++ rv e)
theorem Looks_spec {nm : List UInt8} {x y t e : Rat} (ge : SQ e) (h0 : 0 ≤ e) (lo : Nat) (h : VHeap) : callVL vp lo n_carry_Looks [.agg (slv nm x y t e)] h = some (.agg (rv e), h) := by
  have o0 := Of0Q_spec
  have m := MaxQ_spec ge SQ.zero
  rw [show maxQ e 0 = e from maxQ_zero h0] at m
  refine call_valE (fn := carry_Looks_v) rfl rfl rfl rfl rfl ?_ lo h
  unfold slv
  obtain ⟨a1, a2, a3, a4, a5, a6, a7, a8, a9, ef⟩ := @frv_x x y t
  obtain ⟨b1, b2, b3, e1⟩ := rvx e
  obtain ⟨c1, c2, c3, e2⟩ := rvx (0 : Rat)
  simp only [ef, e1, e2, List.cons_append, List.nil_append] at o0 m ⊢
  clear ef e1 e2
  simp -implicitDefEqProofs only [go_sem, ↓reduceIte, reduceCtorEq, Int.reduceLT, Int.reduceLE, Int.reduceToNat, Nat.reduceAdd, Nat.reduceMul, Nat.reduceLeDiff, Nat.reduceLT, Nat.reduceSub, Int.reduceNeg, Int.reduceEq, Int.reduceBEq, Int.reduceBNe, Nat.reduceEqDiff, o0, m]
theorem placeC_spec {a e : Rat} (ga : SQ a) (ge : SQ e) (b0 b1 b2 : VBlk) (lo : Nat) (hlo : lo = 0) : callVL vp lo n_carry_place_1 [.agg (rv a), .ptr 3 0] [b0, b1, b2, .cells true (rv e)] =
    some (.agg (rv (a - e) ++ rv (a + e)), [b0, b1, b2, .cells true (rv e)]) := by
  subst hlo
  have s1 := SubQ_spec ga ge
  have s2 := AddQ_spec ga ge
  obtain ⟨p1, q1, r1, x1⟩ := rvx a
  obtain ⟨p2, q2, r2, x2⟩ := rvx e
  obtain ⟨p3, q3, r3, x3⟩ := rvx (a - e)
  obtain ⟨p4, q4, r4, x4⟩ := rvx (a + e)
  simp only [x1, x2, x3, x4, List.cons_append, List.nil_append] at s1 s2 ⊢
  clear x1 x2 x3 x4
  refine call_read (fn := carry_place_1_v) («as» := [.agg [.bool p1, .str q1, .str r1], .ptr 3 0]) rfl rfl rfl rfl rfl rfl (.inl rfl) ?_
  simp -implicitDefEqProofs only [go_sem, ↓reduceIte, reduceCtorEq, Int.reduceLT, Int.reduceLE, Int.reduceToNat, Nat.reduceAdd, Nat.reduceMul, Nat.reduceLeDiff, Nat.reduceLT, Nat.reduceSub, Int.reduceNeg, Int.reduceEq, Int.reduceBEq, Int.reduceBNe, Nat.reduceEqDiff, s1, s2]
theorem place_spec {nm : List UInt8} {x y t e : Rat} (gx : SQ x) (gy : SQ y) (ge : SQ e) (h0 : 0 ≤ e) (lo : Nat) (h : VHeap) : callVL vp lo n_carry_place [.agg (slv nm x y t e)] h = some (.tup [.agg (rv (x - e) ++ rv (x + e)), .agg (rv (y - e) ++ rv (y + e))], h) := by
  have o0 := Of0Q_spec
  have m := MaxQ_spec ge SQ.zero
  rw [show maxQ e 0 = e from maxQ_zero h0] at m
  have c1 := fun b0 b1 b2 => placeC_spec gx ge b0 b1 b2 0 rfl
  have c2 := fun b0 b1 b2 => placeC_spec gy ge b0 b1 b2 0 rfl
  refine call_valE (fn := carry_place_v) rfl rfl rfl rfl rfl ?_ lo h
  unfold slv frv
  obtain ⟨a1, a2, a3, x1⟩ := rvx x
  obtain ⟨b1, b2, b3, x2⟩ := rvx y
  obtain ⟨d1, d2, d3, x3⟩ := rvx t
  obtain ⟨f1, f2, f3, x4⟩ := rvx e
  obtain ⟨p1, p2, p3, x5⟩ := rvx (0 : Rat)
  obtain ⟨q1, q2, q3, x6⟩ := rvx (x - e)
  obtain ⟨r1, r2, r3, x7⟩ := rvx (x + e)
  obtain ⟨s1, s2, s3, x8⟩ := rvx (y - e)
  obtain ⟨t1, t2, t3, x9⟩ := rvx (y + e)
  simp only [x1, x2, x3, x4, x5, x6, x7, x8, x9, List.cons_append, List.nil_append] at o0 m c1 c2 ⊢
  clear x1 x2 x3 x4 x5 x6 x7 x8 x9
  simp -implicitDefEqProofs only [go_sem, ↓reduceIte, reduceCtorEq, Int.reduceLT, Int.reduceLE, Int.reduceToNat, Nat.reduceAdd, Nat.reduceMul, Nat.reduceLeDiff, Nat.reduceLT, Nat.reduceSub, Int.reduceNeg, Int.reduceEq, Int.reduceBEq, Int.reduceBNe, Nat.reduceEqDiff, o0, m, c1, c2]
theorem Meet_spec {a b c d : Rat} (g : SP a b) (k : SP c d) (lo : Nat) (h : VHeap) : callVL vp lo n_span_Meet [.agg (rv a ++ rv b), .agg (rv c ++ rv d)] h = some (.bool (decide (a ≤ d) && decide (c ≤ b)), h) := by
  refine call_valE (fn := span_Meet_v) rfl rfl rfl rfl rfl ?_ lo h
  have n1 := spanfit_spec g
  have n2 := spanfit_spec k
  have c1 := CmpQ_spec g.ga k.gb
  have c2 := CmpQ_spec k.ga g.gb
  have i1 := @cmpQ_le a d
  have i2 := @cmpQ_le c b
  obtain ⟨b1, x1, y1, e1⟩ := rvx a
  obtain ⟨b2, x2, y2, e2⟩ := rvx b
  obtain ⟨b3, x3, y3, e3⟩ := rvx c
  obtain ⟨b4, x4, y4, e4⟩ := rvx d
  rw [e1, e4] at c1
  rw [e3, e2] at c2
  rw [e1, e2] at n1
  rw [e3, e4] at n2
  rw [e1, e2, e3, e4]
  simp only [List.cons_append, List.nil_append] at n1 n2 ⊢
  by_cases l1 : a ≤ d
  · have i1' := i1.2 l1
    by_cases l2 : c ≤ b
    · have i2' := i2.2 l2
      rw [decide_eq_true l1, decide_eq_true l2]
      simp -implicitDefEqProofs only [go_sem, ↓reduceIte, reduceCtorEq, Int.reduceLT, Int.reduceLE, Int.reduceToNat, Nat.reduceAdd, Nat.reduceMul, Nat.reduceLeDiff, Nat.reduceLT, Nat.reduceSub, Int.reduceNeg, Int.reduceEq, Int.reduceBEq, Int.reduceBNe, Nat.reduceEqDiff, n1, n2, c1, c2, i1', i2', Bool.and_true, Bool.and_false]
    · have i2' : ¬ cmpQ c b ≤ 0 := fun h => l2 (i2.1 h)
      rw [decide_eq_true l1, decide_eq_false l2]
      simp -implicitDefEqProofs only [go_sem, ↓reduceIte, reduceCtorEq, Int.reduceLT, Int.reduceLE, Int.reduceToNat, Nat.reduceAdd, Nat.reduceMul, Nat.reduceLeDiff, Nat.reduceLT, Nat.reduceSub, Int.reduceNeg, Int.reduceEq, Int.reduceBEq, Int.reduceBNe, Nat.reduceEqDiff, n1, n2, c1, c2, i1', i2', Bool.and_true, Bool.and_false]
  · have i1' : ¬ cmpQ a d ≤ 0 := fun h => l1 (i1.1 h)
    rw [decide_eq_false l1, Bool.false_and]
    simp -implicitDefEqProofs only [go_sem, ↓reduceIte, reduceCtorEq, Int.reduceLT, Int.reduceLE, Int.reduceToNat, Nat.reduceAdd, Nat.reduceMul, Nat.reduceLeDiff, Nat.reduceLT, Nat.reduceSub, Int.reduceNeg, Int.reduceEq, Int.reduceBEq, Int.reduceBNe, Nat.reduceEqDiff, n1, n2, c1, i1', Bool.and_true, Bool.and_false]
/-- What is needed of a look at a part for a slot. -/
theorem Need_spec {nm : List UInt8} {p : Po} (g : p.ok) {x y t e : Rat} (sx : SP (x - e) (x + e)) (sy : SP (y - e) (y + e)) (gx : SQ x) (gy : SQ y) (ge : SQ e) (h0 : 0 ≤ e) {mx my ins : Bool}
    (hx : (decide (p.x1 ≤ x + e) && decide (x - e ≤ p.x2)) = mx) (hy : (decide (p.y1 ≤ y + e) && decide (y - e ≤ p.y2)) = my) (hi : p.inB ⟨x - e, x + e, y - e, y + e, p.t1, p.t2⟩ = ins) (lo : Nat) (h : VHeap) :
    callVL vp lo n_carry_Need [.agg p.v, .agg (slv nm x y t e)] h = some (.int .i64 (if mx && my then if ins then 0 else 18 else 17), h) := by
  have hp := place_spec (nm := nm) (t := t) gx gy ge h0
  have m1 := Meet_spec g.x sx
  have m2 := Meet_spec g.y sy
  have i := Inside_spec (q := ⟨x - e, x + e, y - e, y + e, p.t1, p.t2⟩) g ⟨sx, sy, g.t⟩
  rw [hx] at m1
  rw [hy] at m2
  rw [hi] at i
  clear hx hy hi
  refine call_valE (fn := carry_Need_v) rfl rfl rfl rfl rfl ?_ lo h
  unfold Po.v at *
  unfold slv frv at *
  simp only [] at i
  obtain ⟨a1, a2, a3, x1⟩ := rvx x
  obtain ⟨b1, b2, b3, x2⟩ := rvx y
  obtain ⟨d1, d2, d3, x3⟩ := rvx t
  obtain ⟨f1, f2, f3, x4⟩ := rvx e
  obtain ⟨q1, q2, q3, x6⟩ := rvx (x - e)
  obtain ⟨r1, r2, r3, x7⟩ := rvx (x + e)
  obtain ⟨s1, s2, s3, x8⟩ := rvx (y - e)
  obtain ⟨t1, t2, t3, x9⟩ := rvx (y + e)
  obtain ⟨a11, a12, a13, y1⟩ := rvx p.x1
  obtain ⟨b11, b12, b13, y2⟩ := rvx p.x2
  obtain ⟨c11, c12, c13, y3⟩ := rvx p.y1
  obtain ⟨d11, d12, d13, y4⟩ := rvx p.y2
  obtain ⟨f11, f12, f13, y5⟩ := rvx p.t1
  obtain ⟨g11, g12, g13, y6⟩ := rvx p.t2
  simp only [x1, x2, x3, x4, x6, x7, x8, x9, y1, y2, y3, y4, y5, y6, List.cons_append, List.nil_append] at hp m1 m2 i ⊢
  clear x1 x2 x3 x4 x6 x7 x8 x9 y1 y2 y3 y4 y5 y6
  cases mx <;> cases my <;> cases ins <;> simp only [Bool.and_true, Bool.and_false, Bool.true_and, Bool.false_and, if_true, if_false, Bool.false_eq_true] <;> simp -implicitDefEqProofs only [go_sem, ↓reduceIte, reduceCtorEq, Int.reduceLT, Int.reduceLE, Int.reduceToNat, Nat.reduceAdd, Nat.reduceMul, Nat.reduceLeDiff, Nat.reduceLT, Nat.reduceSub, Int.reduceNeg, Int.reduceEq, Int.reduceBEq, Int.reduceBNe, Nat.reduceEqDiff, hp, m1, m2, i]
end Vg.G3
namespace Vg.G3
open Go Lg Vg.Nm
set_option linter.unusedSimpArgs false
set_option linter.unusedVariables false
set_option maxRecDepth 10000
set_option maxHeartbeats 8000000
attribute [local congr] bind_congr1
attribute [local go_sem] gantkeep4_CarryLooks_r0 gantkeep4_CarryLooks_r1 gantkeep4_CarryLooks_r2 gantkeep4_CarryLooks_r2_d gantkeep4_CarryLooks_r3 gantkeep4_CarryLooks_r4 gantkeep4_CarryLooks_r4_d gantkeep4_CarryLooks_r5 gantkeep4_CarryLooks_r5_d gantkeep4_CarryLooks_r6 gantkeep4_CarryLooks_f gantkeep4_CarryLooks_v

theorem t16_4 (k : Int) : mkRat k 4 = mkRat (4 * k) 16 := by rw [mk_scale (a := k) (D := 4) (E := 4) (by decide) (by decide), show ((4 : Nat) : Int) = 4 from rfl, Int.mul_comm]
theorem t16_2 (k : Int) : mkRat k 2 = mkRat (8 * k) 16 := by rw [mk_scale (a := k) (D := 2) (E := 8) (by decide) (by decide), show ((8 : Nat) : Int) = 8 from rfl, Int.mul_comm]
theorem t16_8 (k : Int) : mkRat k 8 = mkRat (2 * k) 16 := by rw [mk_scale (a := k) (D := 8) (E := 2) (by decide) (by decide), show ((2 : Nat) : Int) = 2 from rfl, Int.mul_comm]
theorem t16_n (n : Nat) : (n : Rat) = mkRat (16 * n) 16 := by
  rw [show (n : Rat) = mkRat n 1 by rw [Rat.mkRat_eq_div, Rat.div_def, show ((1 : Nat) : Rat)⁻¹ = 1 by decide +kernel, Rat.mul_one]; rfl, mk_scale (a := (n : Int)) (D := 1) (E := 16) (by decide) (by decide), show ((16 : Nat) : Int) = 16 from rfl, Int.mul_comm]
theorem mknn {n : Int} (h : 0 ≤ n) {d : Nat} (hd : d ≠ 0) : 0 ≤ mkRat n d := by
  have := mk_le hd h
  rwa [mk_zero] at this
theorem dec2 {p q : Prop} [Decidable p] [Decidable q] (hp : p) (hq : q) : (decide p && decide q) = true := by rw [decide_eq_true hp, decide_eq_true hq]; rfl
/-- The law CarryLooks. -/
theorem CarryLooks_law (a l : List Int) (turn : Int) (lo : Nat) (h : VHeap) : callVL vp lo n_gantkeep4_CarryLooks [.list .s (a.map fun x => [.int .i64 x]), .list .s (l.map fun x => [.int .i64 x]), .int .i64 turn] h = some (.bool true, h) := by
  refine call_valE (fn := gantkeep4_CarryLooks_v) rfl rfl rfl rfl rfl ?_ lo h
  have z16 : (16 : Nat) ≠ 0 := by decide
  have hB := Below_spec turn 9 (by decide)
  have bb := belowP_bnd turn 9 (by decide) (by decide)
  generalize belowP turn 9 = tb at *
  have hw : IntKind.i64.wrap (1 + tb) = 1 + tb := wrap_id (by omega) (by omega)
  have o1 := OfM_spec (k := 1 + tb) (d := 16) (by omega) (by decide) (by decide)
  rw [show ((16 : Nat) : Int) = 16 from rfl] at o1
  have o8 := OfM_spec (k := 1) (d := 8) (by decide) (by decide) (by decide)
  rw [show ((8 : Nat) : Int) = 8 from rfl, t16_8] at o8
  obtain ⟨p, gp, hp⟩ := Pose_spec a
  obtain ⟨x1, x2, y1, y2, t1, t2, pd, bx1, bx2, by1, by2, bt1, bt2⟩ := gp.pd
  obtain ⟨i, j, k, i1, i2, j1, j2, k1, k2, hF⟩ := Frame_spec l
  rw [t16_2, t16_2, t16_4] at hF
  have ppx := pd.x
  have ppy := pd.y
  have ppt := pd.t
  have ep := pd.eq
  have gpo := gp.ok
  have o100 := OfQ_spec (n := 100) (by decide)
  have o2 := OfQ_spec (n := 2) (by decide)
  have o3 := OfQ_spec (n := 3) (by decide)
  rw [show ((100 : Nat) : Int) = 100 from rfl, t16_n, show (16 : Int) * ((100 : Nat) : Int) = 1600 from rfl] at o100
  rw [show ((2 : Nat) : Int) = 2 from rfl, t16_n, show (16 : Int) * ((2 : Nat) : Int) = 32 from rfl] at o2
  rw [show ((3 : Nat) : Int) = 3 from rfl, t16_n, show (16 : Int) * ((3 : Nat) : Int) = 48 from rfl] at o3
  have sq : ∀ {c : Int}, c.natAbs ≤ 100000 → SQ (mkRat c 16) := fun {c} hc => mk_sq (by omega) z16 (by decide)
  have sp : ∀ {c d : Int}, -100000 ≤ c → c ≤ d → d ≤ 100000 → SP (mkRat c 16) (mkRat d 16) := fun {c d} h1 h2 h3 => mk_sp h1 h2 h3 z16 (by decide)
  have hW := Widen_spec gpo (e := mkRat 1600 16) (t := mkRat 1600 16) (sq (by decide)) (sq (by decide)) (mknn (by decide) z16) (mknn (by decide) z16)
  have eW : p.wide (mkRat 1600 16) (mkRat 1600 16) = ⟨mkRat (4 * x1 - 1600) 16, mkRat (4 * x2 + 1600) 16, mkRat (4 * y1 - 1600) 16, mkRat (4 * y2 + 1600) 16, mkRat (4 * t1 - 1600) 16, mkRat (4 * t2 + 1600) 16⟩ := by
    rw [ep]; unfold Po.wide; simp only [t16_4, mk_sub z16, mk_add z16]
  rw [eW] at hW
  have okP : (Po.mk (mkRat (4 * x1 - 1600) 16) (mkRat (4 * x2 + 1600) 16) (mkRat (4 * y1 - 1600) 16) (mkRat (4 * y2 + 1600) 16) (mkRat (4 * t1 - 1600) 16) (mkRat (4 * t2 + 1600) 16)).ok :=
    ⟨sp (by omega) (by omega) (by omega), sp (by omega) (by omega) (by omega), sp (by omega) (by omega) (by omega)⟩
  have b1 : 4 * x1 - 1600 ≤ -1000 := by omega
  have b2 : 1000 ≤ 4 * x2 + 1600 := by omega
  have b3 : 4 * y1 - 1600 ≤ -1000 := by omega
  have b4 : 1000 ≤ 4 * y2 + 1600 := by omega
  have b5 : 4 * t1 - 1600 ≤ -1000 := by omega
  have b6 : 1000 ≤ 4 * t2 + 1600 := by omega
  have d1 : -4000 ≤ 4 * x1 - 1600 := by omega
  have d2 : 4 * x2 + 1600 ≤ 4000 := by omega
  have d3 : -4000 ≤ 4 * y1 - 1600 := by omega
  have d4 : 4 * y2 + 1600 ≤ 4000 := by omega
  have d5 : -4000 ≤ 4 * t1 - 1600 := by omega
  have d6 : 4 * t2 + 1600 ≤ 4000 := by omega
  clear eW ep pd ppx ppy ppt bx1 bx2 by1 by2 bt1 bt2 gpo gp
  generalize 4 * x1 - 1600 = X1 at *
  generalize 4 * x2 + 1600 = X2 at *
  generalize 4 * y1 - 1600 = Y1 at *
  generalize 4 * y2 + 1600 = Y2 at *
  generalize 4 * t1 - 1600 = T1 at *
  generalize 4 * t2 + 1600 = T2 at *
  have f1 : -130 ≤ 8 * i := by omega
  have f2 : 8 * i ≤ 130 := by omega
  have f3 : -130 ≤ 8 * j := by omega
  have f4 : 8 * j ≤ 130 := by omega
  have f5 : -130 ≤ 4 * k := by omega
  have f6 : 4 * k ≤ 130 := by omega
  have e1 : 1 ≤ 1 + tb := by omega
  have e2 : 1 + tb ≤ 9 := by omega
  clear i1 i2 j1 j2 k1 k2 bb
  generalize 8 * i = I at *
  generalize 8 * j = J at *
  generalize 4 * k = K at *
  obtain ⟨E, hE⟩ : ∃ E, 1 + tb = E := ⟨_, rfl⟩
  rw [hE] at hw o1 e1 e2
  rw [show (2 : Int) * 1 = 2 from rfl] at o8
  have gI : SQ (mkRat I 16) := sq (by omega)
  have gJ : SQ (mkRat J 16) := sq (by omega)
  have gK : SQ (mkRat K 16) := sq (by omega)
  have gE : SQ (mkRat E 16) := sq (by omega)
  have g2 : SQ (mkRat 2 16) := sq (by omega)
  have nE : 0 ≤ mkRat E 16 := mknn (by omega) z16
  have hl := Looks_spec (nm := []) (x := mkRat I 16) (y := mkRat J 16) (t := mkRat K 16) gE nE
  have ew : (Po.mk (mkRat I 16) (mkRat I 16) (mkRat J 16) (mkRat J 16) (mkRat K 16) (mkRat K 16)).wide (mkRat E 16) (mkRat 2 16) = ⟨mkRat (I - E) 16, mkRat (I + E) 16, mkRat (J - E) 16, mkRat (J + E) 16, mkRat (K - 2) 16, mkRat (K + 2) 16⟩ := by
    unfold Po.wide; simp only [mk_sub z16, mk_add z16]
  have okq : (Po.mk (mkRat (I - E) 16) (mkRat (I + E) 16) (mkRat (J - E) 16) (mkRat (J + E) 16) (mkRat (K - 2) 16) (mkRat (K + 2) 16)).ok := ⟨sp (by omega) (by omega) (by omega), sp (by omega) (by omega) (by omega), sp (by omega) (by omega) (by omega)⟩
  have hL := Look_spec okP gI gJ gK gE g2 nE (mknn (by decide) z16) (by rw [ew]; exact okq)
  rw [ew] at hL
  have em : (Po.mk (mkRat X1 16) (mkRat X2 16) (mkRat Y1 16) (mkRat Y2 16) (mkRat T1 16) (mkRat T2 16)).meet ⟨mkRat (I - E) 16, mkRat (I + E) 16, mkRat (J - E) 16, mkRat (J + E) 16, mkRat (K - 2) 16, mkRat (K + 2) 16⟩ = ⟨mkRat (I - E) 16, mkRat (I + E) 16, mkRat (J - E) 16, mkRat (J + E) 16, mkRat (K - 2) 16, mkRat (K + 2) 16⟩ := by
    unfold Po.meet
    simp only [maxQ_mk z16, minQ_mk z16]
    rw [show max X1 (I - E) = I - E by omega, show min X2 (I + E) = I + E by omega, show max Y1 (J - E) = J - E by omega, show min Y2 (J + E) = J + E by omega, show max T1 (K - 2) = K - 2 by omega, show min T2 (K + 2) = K + 2 by omega]
  have hm : (Po.mk (mkRat X1 16) (mkRat X2 16) (mkRat Y1 16) (mkRat Y2 16) (mkRat T1 16) (mkRat T2 16)).meets ⟨mkRat (I - E) 16, mkRat (I + E) 16, mkRat (J - E) 16, mkRat (J + E) 16, mkRat (K - 2) 16, mkRat (K + 2) 16⟩ = true := by
    refine Po.meets_iff.2 ?_
    unfold Po.Mt
    simp only [maxQ_mk z16, minQ_mk z16, mk_le_iff z16]
    omega
  rw [if_pos hm, if_pos hm, em] at hL
  clear em hm ew
  have sx := sp (c := I - E) (d := I + E) (by omega) (by omega) (by omega)
  have sy := sp (c := J - E) (d := J + E) (by omega) (by omega) (by omega)
  rw [← mk_sub z16, ← mk_add z16] at sx sy
  -- what is needed
  have hN1 := Need_spec (nm := []) (t := mkRat K 16) (mx := true) (my := true) (ins := true) okq sx sy gI gJ gE nE
    (by simp only [mk_sub z16, mk_add z16]; exact dec2 (mk_le z16 (by omega)) (mk_le z16 (by omega)))
    (by simp only [mk_sub z16, mk_add z16]; exact dec2 (mk_le z16 (by omega)) (mk_le z16 (by omega)))
    (Po.inB_iff.2 (by unfold Po.Sub; simp only [mk_sub z16, mk_add z16]; exact ⟨⟨⟨Rat.le_refl, Rat.le_refl⟩, Rat.le_refl, Rat.le_refl⟩, Rat.le_refl, Rat.le_refl⟩))
  have hN2 := Need_spec (nm := []) (t := mkRat K 16) (mx := true) (my := true) (ins := false) okP sx sy gI gJ gE nE
    (by simp only [mk_sub z16, mk_add z16]; exact dec2 (mk_le z16 (by omega)) (mk_le z16 (by omega)))
    (by simp only [mk_sub z16, mk_add z16]; exact dec2 (mk_le z16 (by omega)) (mk_le z16 (by omega)))
    (by
      rw [Bool.eq_false_iff]
      intro hb
      have := (Po.inB_iff.1 hb).1.1.1
      simp only [mk_sub z16, mk_le_iff z16] at this
      omega)
  have okf : (Po.mk (mkRat (I + 32) 16) (mkRat (I + 48) 16) (mkRat Y1 16) (mkRat Y2 16) (mkRat T1 16) (mkRat T2 16)).ok := ⟨sp (by omega) (by omega) (by omega), okP.y, okP.t⟩
  have hN3 := fun ins hi => Need_spec (nm := []) (t := mkRat K 16) (mx := false) (my := true) (ins := ins) okf sx sy gI gJ gE nE
    (by
      simp only [mk_sub z16, mk_add z16]
      rw [decide_eq_false (fun hb => by rw [mk_le_iff z16] at hb; omega)]; rfl)
    (by simp only [mk_sub z16, mk_add z16]; exact dec2 (mk_le z16 (by omega)) (mk_le z16 (by omega)))
    hi
  have hN3 := hN3 _ rfl
  simp only [Bool.and_true, if_true, if_false, Bool.false_eq_true, Bool.false_and] at hN1 hN2 hN3
  have a2 := AddQ_spec gI (sq (c := 32) (by decide))
  have a3 := AddQ_spec gI (sq (c := 48) (by decide))
  rw [mk_add z16] at a2 a3
  have hc := carried_spec
  clear okf okq okP sx sy sp sq gI gJ gK gE g2 nE b1 b2 b3 b4 b5 b6 d1 d2 d3 d4 d5 d6 f1 f2 f3 f4 f5 f6 e1 e2
  unfold slv at hl hN1 hN2 hN3
  unfold frv at *
  unfold Po.v at hW hL hN1 hN2 hN3
  simp only [] at hW hL hN1 hN2 hN3
  generalize mkRat I 16 = r1 at *
  generalize mkRat J 16 = r2 at *
  generalize mkRat K 16 = r3 at *
  generalize mkRat E 16 = r4 at *
  generalize mkRat 2 16 = r5 at *
  generalize mkRat 1600 16 = r6 at *
  generalize mkRat (I + 32) 16 = r7 at *
  generalize mkRat (I + 48) 16 = r8 at *
  generalize mkRat 32 16 = r9 at *
  generalize mkRat 48 16 = r10 at *
  generalize mkRat X1 16 = s1 at *
  generalize mkRat X2 16 = s2 at *
  generalize mkRat Y1 16 = s3 at *
  generalize mkRat Y2 16 = s4 at *
  generalize mkRat T1 16 = s5 at *
  generalize mkRat T2 16 = s6 at *
  generalize mkRat (I - E) 16 = q1 at *
  generalize mkRat (I + E) 16 = q2 at *
  generalize mkRat (J - E) 16 = q3 at *
  generalize mkRat (J + E) 16 = q4 at *
  generalize mkRat (K - 2) 16 = q5 at *
  generalize mkRat (K + 2) 16 = q6 at *
  obtain ⟨b1', x1', y1', h1'⟩ := rvx r1
  obtain ⟨b2', x2', y2', h2'⟩ := rvx r2
  obtain ⟨b3', x3', y3', h3'⟩ := rvx r3
  obtain ⟨b4', x4', y4', h4'⟩ := rvx r4
  obtain ⟨b5', x5', y5', h5'⟩ := rvx r5
  obtain ⟨b6', x6', y6', h6'⟩ := rvx r6
  obtain ⟨b7', x7', y7', h7'⟩ := rvx r7
  obtain ⟨b8', x8', y8', h8'⟩ := rvx r8
  obtain ⟨b9', x9', y9', h9'⟩ := rvx r9
  obtain ⟨b10', x10', y10', h10'⟩ := rvx r10
  obtain ⟨b11', x11', y11', h11'⟩ := rvx s1
  obtain ⟨b12', x12', y12', h12'⟩ := rvx s2
  obtain ⟨b13', x13', y13', h13'⟩ := rvx s3
  obtain ⟨b14', x14', y14', h14'⟩ := rvx s4
  obtain ⟨b15', x15', y15', h15'⟩ := rvx s5
  obtain ⟨b16', x16', y16', h16'⟩ := rvx s6
  obtain ⟨b17', x17', y17', h17'⟩ := rvx q1
  obtain ⟨b18', x18', y18', h18'⟩ := rvx q2
  obtain ⟨b19', x19', y19', h19'⟩ := rvx q3
  obtain ⟨b20', x20', y20', h20'⟩ := rvx q4
  obtain ⟨b21', x21', y21', h21'⟩ := rvx q5
  obtain ⟨b22', x22', y22', h22'⟩ := rvx q6
  obtain ⟨a1, a2', a3', a4, a5, a6, a7, a8, a9, a10, a11, a12, a13, a14, a15, a16, a17, a18, pe⟩ := p.vx
  unfold Po.v at pe hp
  simp only [h1', h2', h3', h4', h5', h6', h7', h8', h9', h10', h11', h12', h13', h14', h15', h16', h17', h18', h19', h20', h21', h22', pe, List.cons_append, List.nil_append] at hp hF o1 o8 o100 o2 o3 hW hl hL hN1 hN2 hN3 a2 a3
  clear h1' h2' h3' h4' h5' h6' h7' h8' h9' h10' h11' h12' h13' h14' h15' h16' h17' h18' h19' h20' h21' h22' pe
  simp -implicitDefEqProofs only [go_sem, ↓reduceIte, reduceCtorEq, Int.reduceLT, Int.reduceLE, Int.reduceToNat, Nat.reduceAdd, Nat.reduceMul, Nat.reduceLeDiff, Nat.reduceLT, Nat.reduceSub, Int.reduceNeg, Int.reduceEq, Int.reduceBEq, Int.reduceBNe, Nat.reduceEqDiff, hB, hE, hw, o1, o8, o100, o2, o3, hp, hF, hW, hl, hL, hN1, hN2, hN3, a2, a3, hc]
end Vg.G3
