import Derived.Test.YtpclbojoknhnlaaDoorVR9
namespace Vg.G3
open Go Lg Vg.Nm
set_option linter.unusedSimpArgs false
set_option linter.unusedVariables false
set_option maxRecDepth 10000
set_option maxHeartbeats 4000000
attribute [local congr] bind_congr1
-- nothing

theorem maxQ_le {a c x : Rat} : maxQ a c ≤ x ↔ a ≤ x ∧ c ≤ x := by
  unfold maxQ
  split
  · rename_i h; exact ⟨fun h1 => ⟨h1, Rat.le_trans h h1⟩, fun h1 => h1.1⟩
  · rename_i h
    have := Rat.le_of_lt (Rat.not_le.1 h)
    exact ⟨fun h1 => ⟨Rat.le_trans this h1, h1⟩, fun h1 => h1.2⟩
theorem le_minQ {b d x : Rat} : x ≤ minQ b d ↔ x ≤ b ∧ x ≤ d := by
  unfold minQ
  split
  · rename_i h; exact ⟨fun h1 => ⟨h1, Rat.le_trans h1 h⟩, fun h1 => h1.1⟩
  · rename_i h
    have := Rat.le_of_lt (Rat.not_le.1 h)
    exact ⟨fun h1 => ⟨Rat.le_trans h1 this, h1⟩, fun h1 => h1.2⟩
theorem le_max1 {a c : Rat} : a ≤ maxQ a c := (maxQ_le.1 Rat.le_refl).1
theorem min_le1 {b d : Rat} : minQ b d ≤ b := (le_minQ.1 Rat.le_refl).1
def Po.Sub (p q : Po) : Prop := ((q.x1 ≤ p.x1 ∧ p.x2 ≤ q.x2) ∧ (q.y1 ≤ p.y1 ∧ p.y2 ≤ q.y2)) ∧ (q.t1 ≤ p.t1 ∧ p.t2 ≤ q.t2)
theorem Po.inB_iff {p q : Po} : p.inB q = true ↔ p.Sub q := by unfold Po.inB Po.Sub; simp only [Bool.and_eq_true, decide_eq_true_eq]
def Po.Mt (p q : Po) : Prop := (maxQ p.x1 q.x1 ≤ minQ p.x2 q.x2 ∧ maxQ p.y1 q.y1 ≤ minQ p.y2 q.y2) ∧ maxQ p.t1 q.t1 ≤ minQ p.t2 q.t2
theorem Po.meets_iff {p q : Po} : p.meets q = true ↔ p.Mt q := by unfold Po.meets Po.Mt; simp only [Bool.and_eq_true, decide_eq_true_eq]
theorem PD.ok {D : Nat} {p : Po} {x1 x2 y1 y2 t1 t2 : Int} (g : PD D p x1 x2 y1 y2 t1 t2) : p.ok := by
  have e := g.eq
  have h0 := g.d0
  have h1 := g.d1
  have ax := g.lx; have bx := g.x; have cx := g.hx
  have ay := g.ly; have byy := g.y; have cy := g.hy
  have aT := g.lt; have bT := g.t; have cT := g.ht
  subst e
  exact ⟨mk_sp ax bx cx h0 (by omega), mk_sp ay byy cy h0 (by omega), mk_sp aT bT cT h0 (by omega)⟩
theorem QP.pd {p : Po} (g : QP p) : ∃ x1 x2 y1 y2 t1 t2, PD 4 p x1 x2 y1 y2 t1 t2 ∧ -20 ≤ x1 ∧ x2 ≤ 26 ∧ -20 ≤ y1 ∧ y2 ≤ 26 ∧ -4 ≤ t1 ∧ t2 ≤ 10 := by
  obtain ⟨x1, x2, y1, y2, t1, t2, e, h1, h2, h3, _, h5, h6, h7, _, h9, h10, h11, _⟩ := g.ex
  exact ⟨x1, x2, y1, y2, t1, t2, ⟨e, by decide, by decide, by omega, h2, by omega, by omega, h6, by omega, by omega, h10, by omega⟩, h1, h3, h5, h7, h9, h11⟩
theorem frv_x {u v w : Rat} : ∃ b1 n1 d1 b2 n2 d2 b3 n3 d3, frv (rv u) (rv v) (rv w) = [.bool b1, .str n1, .str d1, .bool b2, .str n2, .str d2, .bool false, .bool b3, .str n3, .str d3] := ⟨_, _, _, _, _, _, _, _, _, rfl⟩
theorem Po.nz_x : Po.nz = [.bool false, .str [], .str [], .bool false, .str [], .str [], .bool false, .str [], .str [], .bool false, .str [], .str [], .bool false, .str [], .str [], .bool false, .str [], .str []] := rfl
end Vg.G3
namespace Vg.G3
open Go Lg Vg.Nm
set_option linter.unusedSimpArgs false
set_option linter.unusedVariables false
set_option maxRecDepth 10000
set_option maxHeartbeats 4000000
attribute [local congr] bind_congr1
attribute [local go_sem] see_wide_r0 see_wide_r1 see_wide_r1_d see_wide_r2 see_wide_r2_d see_wide_f see_wide_v see_Widen_r0 see_Widen_r1 see_Widen_r1_d see_Widen_f see_Widen_v see_Look_r0 see_Look_r1 see_Look_r2 see_Look_r3 see_Look_r4 see_Look_r4_d see_Look_f see_Look_v

theorem maxQ_zero {e : Rat} (h : 0 ≤ e) : maxQ e ((0 : Nat) : Rat) = e := by unfold maxQ; rw [if_pos]; exact h
theorem wide_spec {a b e : Rat} (g : SP a b) (ge : SQ e) (h0 : 0 ≤ e) (lo : Nat) (h : VHeap) : callVL vp lo n_see_wide [.agg (rv a ++ rv b), .agg (rv e)] h = some (.agg (rv (a - e) ++ rv (b + e)), h) := by
  refine call_valE (fn := see_wide_v) rfl rfl rfl rfl rfl ?_ lo h
  have n1 := norm_spec g
  have o := OfQ_spec (n := 0) (by decide)
  rw [show ((0 : Nat) : Int) = 0 from rfl] at o
  have m := MaxQ_spec ge (SQ.nat (n := 0) (by decide))
  rw [maxQ_zero h0] at m
  have s := SubQ_spec g.ga ge
  have d := AddQ_spec g.gb ge
  obtain ⟨p1, q1, r1, e1⟩ := rvx a
  obtain ⟨p2, q2, r2, e2⟩ := rvx b
  obtain ⟨p3, q3, r3, e3⟩ := rvx e
  obtain ⟨p4, q4, r4, e4⟩ := rvx ((0 : Nat) : Rat)
  obtain ⟨p5, q5, r5, e5⟩ := rvx (a - e)
  obtain ⟨p6, q6, r6, e6⟩ := rvx (b + e)
  simp only [e1, e2, e3, e4, e5, e6, List.cons_append, List.nil_append] at n1 o m s d ⊢
  clear e1 e2 e3 e4 e5 e6
  simp -implicitDefEqProofs only [go_sem, ↓reduceIte, reduceCtorEq, Int.reduceLT, Int.reduceLE, Int.reduceToNat, Nat.reduceAdd, Nat.reduceMul, Nat.reduceLeDiff, Nat.reduceLT, Nat.reduceSub, Int.reduceNeg, Int.reduceEq, Int.reduceBEq, Int.reduceBNe, Nat.reduceEqDiff, n1, o, m, s, d]
def Po.wide (p : Po) (e t : Rat) : Po := ⟨p.x1 - e, p.x2 + e, p.y1 - e, p.y2 + e, p.t1 - t, p.t2 + t⟩
theorem Widen_spec {p : Po} (g : p.ok) {e t : Rat} (ge : SQ e) (gt : SQ t) (h0 : 0 ≤ e) (h1 : 0 ≤ t) (lo : Nat) (h : VHeap) : callVL vp lo n_see_Widen [.agg p.v, .agg (rv e), .agg (rv t)] h = some (.agg (p.wide e t).v, h) := by
  refine call_valE (fn := see_Widen_v) rfl rfl rfl rfl rfl ?_ lo h
  have k1 := wide_spec g.x ge h0
  have k2 := wide_spec g.y ge h0
  have k3 := wide_spec g.t gt h1
  unfold Po.v Po.wide
  obtain ⟨p1, q1, r1, e1⟩ := rvx p.x1
  obtain ⟨p2, q2, r2, e2⟩ := rvx p.x2
  obtain ⟨p3, q3, r3, e3⟩ := rvx p.y1
  obtain ⟨p4, q4, r4, e4⟩ := rvx p.y2
  obtain ⟨p5, q5, r5, e5⟩ := rvx p.t1
  obtain ⟨p6, q6, r6, e6⟩ := rvx p.t2
  obtain ⟨p7, q7, r7, e7⟩ := rvx e
  obtain ⟨p8, q8, r8, e8⟩ := rvx t
  obtain ⟨p11, q11, r11, e11⟩ := rvx (p.x1 - e)
  obtain ⟨p12, q12, r12, e12⟩ := rvx (p.x2 + e)
  obtain ⟨p13, q13, r13, e13⟩ := rvx (p.y1 - e)
  obtain ⟨p14, q14, r14, e14⟩ := rvx (p.y2 + e)
  obtain ⟨p15, q15, r15, e15⟩ := rvx (p.t1 - t)
  obtain ⟨p16, q16, r16, e16⟩ := rvx (p.t2 + t)
  simp only [e1, e2, e3, e4, e5, e6, e7, e8, e11, e12, e13, e14, e15, e16, List.cons_append, List.nil_append] at k1 k2 k3 ⊢
  clear e1 e2 e3 e4 e5 e6 e7 e8 e11 e12 e13 e14 e15 e16
  simp -implicitDefEqProofs only [go_sem, ↓reduceIte, reduceCtorEq, Int.reduceLT, Int.reduceLE, Int.reduceToNat, Nat.reduceAdd, Nat.reduceMul, Nat.reduceLeDiff, Nat.reduceLT, Nat.reduceSub, Int.reduceNeg, Int.reduceEq, Int.reduceBEq, Int.reduceBNe, Nat.reduceEqDiff, k1, k2, k3]
theorem Look_spec {p : Po} (g : p.ok) {x y w e t : Rat} (gx : SQ x) (gy : SQ y) (gw : SQ w) (ge : SQ e) (gt : SQ t) (h0 : 0 ≤ e) (h1 : 0 ≤ t) (k : ((Po.mk x x y y w w).wide e t).ok) (lo : Nat) (h : VHeap) : callVL vp lo n_see_Look [.agg p.v, .agg (frv (rv x) (rv y) (rv w)), .agg (rv e), .agg (rv t)] h =
    some (.tup [.agg (if p.meets ((Po.mk x x y y w w).wide e t) then (p.meet ((Po.mk x x y y w w).wide e t)).v else Po.nz), .int .i64 (if p.meets ((Po.mk x x y y w w).wide e t) then 0 else 4)], h) := by
  refine call_valE (fn := see_Look_v) rfl rfl rfl rfl rfl ?_ lo h
  have k1 := seeOf_spec gx.fq gy.fq gw.fq
  have k2 := Widen_spec (p := Po.mk x x y y w w) ⟨SP.self gx, SP.self gy, SP.self gw⟩ ge gt h0 h1
  have k3 := Narrow_spec g k
  generalize (Po.mk x x y y w w).wide e t = W at *
  obtain ⟨p1, q1, r1, e1⟩ := rvx e
  obtain ⟨p2, q2, r2, e2⟩ := rvx t
  obtain ⟨fa1, fa2, fa3, fa4, fa5, fa6, fa7, fa8, fa9, ef⟩ := @frv_x x y w
  obtain ⟨a1, a2, a3, a4, a5, a6, a7, a8, a9, a10, a11, a12, a13, a14, a15, a16, a17, a18, e3⟩ := p.vx
  obtain ⟨b1, b2, b3, b4, b5, b6, b7, b8, b9, b10, b11, b12, b13, b14, b15, b16, b17, b18, e4⟩ := (Po.mk x x y y w w).vx
  obtain ⟨c1, c2, c3, c4, c5, c6, c7, c8, c9, c10, c11, c12, c13, c14, c15, c16, c17, c18, e5⟩ := W.vx
  obtain ⟨d1, d2, d3, d4, d5, d6, d7, d8, d9, d10, d11, d12, d13, d14, d15, d16, d17, d18, e6⟩ := (p.meet W).vx
  simp only [e1, e2, e3, e4, e5, e6, ef, Po.nz_x] at k1 k2 k3 ⊢
  clear e1 e2 e3 e4 e5 e6 ef
  cases hb : p.meets W <;> rw [hb] at k3 <;> simp only [if_true, if_false, Bool.false_eq_true] at k3 ⊢ <;> simp -implicitDefEqProofs only [go_sem, ↓reduceIte, reduceCtorEq, Int.reduceLT, Int.reduceLE, Int.reduceToNat, Nat.reduceAdd, Nat.reduceMul, Nat.reduceLeDiff, Nat.reduceLT, Nat.reduceSub, Int.reduceNeg, Int.reduceEq, Int.reduceBEq, Int.reduceBNe, Nat.reduceEqDiff, k1, k2, k3]
theorem mk_le_iff {a b : Int} {D : Nat} (hD : D ≠ 0) : mkRat a D ≤ mkRat b D ↔ a ≤ b := by
  refine ⟨fun h => ?_, mk_le hD⟩
  rcases Int.lt_or_le b a with hlt | hge
  · exfalso
    have h1 := mk_le hD (show b + 1 ≤ a by omega)
    have h2 := Rat.le_trans h1 h
    rw [← mk_add hD] at h2
    have h3 : 0 < mkRat 1 D := by
      rw [Rat.mkRat_eq_div, Rat.div_def]
      have : (0 : Rat) < (D : Rat)⁻¹ := Rat.inv_pos.2 (by exact_mod_cast Nat.pos_of_ne_zero hD)
      rw [show ((1 : Int) : Rat) = 1 from rfl, Rat.one_mul]; exact this
    grind
  · exact hge
theorem maxQ_mk {a b : Int} {D : Nat} (hD : D ≠ 0) : maxQ (mkRat a D) (mkRat b D) = mkRat (max a b) D := by
  unfold maxQ
  by_cases h : b ≤ a
  · rw [if_pos ((mk_le_iff hD).2 h)]; congr 1; omega
  · rw [if_neg fun h' => h ((mk_le_iff hD).1 h')]; congr 1; omega
theorem minQ_mk {a b : Int} {D : Nat} (hD : D ≠ 0) : minQ (mkRat a D) (mkRat b D) = mkRat (min a b) D := by
  unfold minQ
  by_cases h : a ≤ b
  · rw [if_pos ((mk_le_iff hD).2 h)]; congr 1; omega
  · rw [if_neg fun h' => h ((mk_le_iff hD).1 h')]; congr 1; omega
end Vg.G3
