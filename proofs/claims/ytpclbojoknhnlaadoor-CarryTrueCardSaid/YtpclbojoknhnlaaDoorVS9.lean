import Derived.Test.YtpclbojoknhnlaaDoorVS6
namespace Vg.G3
open Go Lg Vg.Nm
set_option linter.unusedSimpArgs false
set_option linter.unusedVariables false
set_option maxRecDepth 10000
set_option maxHeartbeats 4000000

/-! Plain: sines and cosines between bounds. -/
theorem div_le {x y z w : Rat} (hy : 0 < y) (hw : 0 < w) (h : x * w ≤ z * y) : x / y ≤ z / w := by
  have hc : 0 < (y * w)⁻¹ := Rat.inv_pos.2 (Rat.mul_pos hy hw)
  have h1 := Rat.mul_le_mul_of_nonneg_right h (Rat.le_of_lt hc)
  have y0 : y ≠ 0 := by intro e; rw [e] at hy; exact absurd hy (by decide)
  have w0 : w ≠ 0 := by intro e; rw [e] at hw; exact absurd hw (by decide)
  have e1 : x / y = x * w * (y * w)⁻¹ := by grind
  have e2 : z / w = z * y * (y * w)⁻¹ := by grind
  rw [e1, e2]; exact h1
theorem cosF_anti {u v : Rat} (h0 : 0 ≤ u) (h : u ≤ v) : cosF v ≤ cosF u := by
  unfold cosF
  refine div_le (by grind) (by grind) ?_
  grind
theorem sq_le {u v : Rat} (h0 : 0 ≤ u) (h : u ≤ v) : u * u ≤ v * v := by
  have h1 := Rat.mul_nonneg (show 0 ≤ v - u by grind) (show 0 ≤ v + u by grind)
  grind
theorem sq1_le {a b t : Rat} (h1 : a ≤ t) (h2 : t ≤ b) : sq1 a b ≤ t * t := by
  unfold sq1
  by_cases hc : a ≤ 0 ∧ 0 ≤ b
  · rw [if_pos hc]; exact sq_nonneg t
  · rw [if_neg hc]
    by_cases ha : a ≤ 0
    · have hb : b < 0 := Rat.not_le.1 fun h => hc ⟨ha, h⟩
      refine Rat.le_trans min_le2 ?_
      have := sq_le (u := -b) (v := -t) (by grind) (by grind)
      grind
    · exact Rat.le_trans min_le1 (sq_le (by grind) h1)
theorem le_sq2 {a b t : Rat} (h1 : a ≤ t) (h2 : t ≤ b) : t * t ≤ sq2 a b := by
  unfold sq2
  rcases (Rat.le_total : (0 : Rat) ≤ t ∨ t ≤ 0) with h | h
  · exact Rat.le_trans (sq_le h h2) le_max2
  · refine Rat.le_trans ?_ le_max1
    have := sq_le (u := -t) (v := -a) (by grind) (by grind)
    grind
theorem cos_in {a b t : Rat} (h1 : a ≤ t) (h2 : t ≤ b) : cosF (sq2 a b) ≤ cosF (t * t) ∧ cosF (t * t) ≤ cosF (sq1 a b) :=
  ⟨cosF_anti (sq_nonneg t) (le_sq2 h1 h2), cosF_anti (sq1_nonneg a b) (sq1_le h1 h2)⟩
theorem sin_up {u v : Rat} (h : u ≤ v) (h1 : u * v ≤ 1) : sinF u ≤ sinF v := by
  unfold sinF
  refine div_le (one_pos u) (one_pos v) ?_
  have := Rat.mul_nonneg (show 0 ≤ v - u by grind) (show 0 ≤ 1 - u * v by grind)
  grind
theorem sin_down {u v : Rat} (h : v ≤ u) (h1 : 1 ≤ u * v) : sinF u ≤ sinF v := by
  unfold sinF
  refine div_le (one_pos u) (one_pos v) ?_
  have := Rat.mul_nonneg (show 0 ≤ u - v by grind) (show 0 ≤ u * v - 1 by grind)
  grind
theorem prod_le {u v : Rat} (h1 : -1 ≤ u) (h2 : u ≤ 1) (h3 : -1 ≤ v) (h4 : v ≤ 1) : u * v ≤ 1 := by
  have a := Rat.mul_nonneg (show 0 ≤ 1 - u by grind) (show 0 ≤ 1 + v by grind)
  have b := Rat.mul_nonneg (show 0 ≤ 1 + u by grind) (show 0 ≤ 1 - v by grind)
  grind
theorem prod_ge {u v : Rat} (h1 : 1 ≤ u) (h2 : 1 ≤ v) : 1 ≤ u * v := by
  have a := Rat.mul_nonneg (show 0 ≤ u - 1 by grind) (show 0 ≤ v - 1 by grind)
  grind
theorem prod_ge' {u v : Rat} (h1 : u ≤ -1) (h2 : v ≤ -1) : 1 ≤ u * v := by
  have a := Rat.mul_nonneg (show 0 ≤ -u - 1 by grind) (show 0 ≤ -v - 1 by grind)
  grind
theorem sin_one (t : Rat) : sinF t ≤ 1 := by
  have h := div_le (x := t + t) (y := 1 + t * t) (z := 1) (w := 1) (one_pos t) (by decide) (by have := sq_nonneg (t - 1); grind)
  unfold sinF; grind
theorem sin_mone (t : Rat) : -1 ≤ sinF t := by
  have h := div_le (x := -1) (y := 1) (z := t + t) (w := 1 + t * t) (by decide) (one_pos t) (by have := sq_nonneg (t + 1); grind)
  unfold sinF; grind
theorem sin_le2 {a b t : Rat} (h1 : a ≤ t) (h2 : t ≤ b) : sinF t ≤ sn2 a b := by
  have hA : sinF a ≤ snB a b := by unfold snB; split <;> first | exact Rat.le_trans le_max1 le_max1 | exact le_max1
  have hB : sinF b ≤ snB a b := by unfold snB; split <;> first | exact Rat.le_trans le_max2 le_max1 | exact le_max2
  unfold sn2
  by_cases hc : a ≤ 1 ∧ 1 ≤ b
  · rw [if_pos hc]; exact Rat.le_trans (sin_one t) le_max2
  · rw [if_neg hc]
    by_cases ha : a ≤ 1
    · have hb : b < 1 := Rat.not_le.1 fun h => hc ⟨ha, h⟩
      rcases (Rat.le_total : (-1 : Rat) ≤ t ∨ t ≤ -1) with h | h
      · exact Rat.le_trans (sin_up h2 (prod_le h (by grind) (by grind) (by grind))) hB
      · exact Rat.le_trans (sin_down h1 (prod_ge' h (by grind))) hA
    · exact Rat.le_trans (sin_down h1 (prod_ge (by grind) (by grind))) hA
theorem sin_ge1 {a b t : Rat} (h1 : a ≤ t) (h2 : t ≤ b) : sn1 a b ≤ sinF t := by
  have hs : sn1 a b ≤ snA a b := by unfold sn1; split <;> first | exact min_le1 | exact Rat.le_refl
  refine Rat.le_trans hs ?_
  unfold snA
  by_cases hc : a ≤ -1 ∧ -1 ≤ b
  · rw [if_pos hc]; exact Rat.le_trans min_le2 (sin_mone t)
  · rw [if_neg hc]
    by_cases ha : a ≤ -1
    · have hb : b < -1 := Rat.not_le.1 fun h => hc ⟨ha, h⟩
      exact Rat.le_trans min_le2 (sin_down h2 (prod_ge' (by grind) (by grind)))
    · rcases (Rat.le_total : (1 : Rat) ≤ t ∨ t ≤ 1) with h | h
      · exact Rat.le_trans min_le2 (sin_down h2 (prod_ge (by grind) h))
      · exact Rat.le_trans min_le1 (sin_up h1 (prod_le (by grind) (by grind) (by grind) h))
theorem mul_in {a b x c : Rat} (h1 : a ≤ x) (h2 : x ≤ b) : mul1 a b c c ≤ x * c ∧ x * c ≤ mul2 a b c c := by
  have l1 : mul1 a b c c ≤ a * c := Rat.le_trans min_le1 (Rat.le_trans min_le1 min_le1)
  have l2 : mul1 a b c c ≤ b * c := min_le2
  have g1 : a * c ≤ mul2 a b c c := Rat.le_trans (Rat.le_trans le_max1 le_max1) le_max1
  have g2 : b * c ≤ mul2 a b c c := le_max2
  rcases (Rat.le_total : (0 : Rat) ≤ c ∨ c ≤ 0) with h | h
  · exact ⟨Rat.le_trans l1 (Rat.mul_le_mul_of_nonneg_right h1 h), Rat.le_trans (Rat.mul_le_mul_of_nonneg_right h2 h) g2⟩
  · have a1 := Rat.mul_le_mul_of_nonneg_right h1 (show 0 ≤ -c by grind)
    have a2 := Rat.mul_le_mul_of_nonneg_right h2 (show 0 ≤ -c by grind)
    exact ⟨by grind, by grind⟩
/-- A point of a frame in a pose is in the point's box. -/
theorem point_in {p : Po} {c1 c2 s1 s2 x y fx fy t : Rat} (hin : p.In fx fy t) (hc : c1 ≤ cosF (t * t) ∧ cosF (t * t) ≤ c2) (hs : s1 ≤ sinF t ∧ sinF t ≤ s2) :
    (bX1 p c1 c2 s1 s2 x y ≤ fx + trX x y t ∧ fx + trX x y t ≤ bX2 p c1 c2 s1 s2 x y) ∧ (bY1 p c1 c2 s1 s2 x y ≤ fy + trY x y t ∧ fy + trY x y t ≤ bY2 p c1 c2 s1 s2 x y) := by
  obtain ⟨⟨⟨a1, a2⟩, a3, a4⟩, _, _⟩ := hin
  have m1 := mul_in (c := x) hc.1 hc.2
  have m2 := mul_in (c := y) hs.1 hs.2
  have m3 := mul_in (c := x) hs.1 hs.2
  have m4 := mul_in (c := y) hc.1 hc.2
  unfold bX1 bX2 bY1 bY2 trX trY
  generalize mul1 c1 c2 x x = M1 at *
  generalize mul2 c1 c2 x x = M2 at *
  generalize mul1 s1 s2 y y = M3 at *
  generalize mul2 s1 s2 y y = M4 at *
  generalize mul1 s1 s2 x x = M5 at *
  generalize mul2 s1 s2 x x = M6 at *
  generalize mul1 c1 c2 y y = M7 at *
  generalize mul2 c1 c2 y y = M8 at *
  generalize cosF (t * t) = c at *
  generalize sinF t = s at *
  refine ⟨⟨?_, ?_⟩, ?_, ?_⟩ <;> grind
end Vg.G3
namespace Vg.G3
open Go Lg Vg.Nm
set_option linter.unusedSimpArgs false
set_option linter.unusedVariables false
set_option maxRecDepth 10000
set_option maxHeartbeats 4000000

/-! The sizes of the numbers. -/
/-- A fraction of size at most 1. -/
def CN (B : Nat) (c : Rat) : Prop := ∃ (n : Int) (N : Nat), c = mkRat n N ∧ N ≠ 0 ∧ N ≤ B ∧ n.natAbs ≤ N
theorem CN.sq {B : Nat} {c : Rat} (h : CN B c) (hB : B < 268435456) : SQ c := by
  obtain ⟨n, N, rfl, h0, h1, h2⟩ := h
  exact mk_sq (by omega) h0 (by omega)
theorem CN.min {B : Nat} {a b : Rat} (h : CN B a) (k : CN B b) : CN B (minQ a b) := by unfold minQ; split <;> assumption
theorem CN.max {B : Nat} {a b : Rat} (h : CN B a) (k : CN B b) : CN B (maxQ a b) := by unfold maxQ; split <;> assumption
theorem one_mk : (1 : Rat) = mkRat 1 1 := by decide
theorem CN.one {B : Nat} (h : 1 ≤ B) : CN B 1 := ⟨1, 1, one_mk, by decide, h, by decide⟩
theorem CN.mone {B : Nat} (h : 1 ≤ B) : CN B (-1) := ⟨-1, 1, by decide, by decide, h, by decide⟩
theorem cosF_mk {m D : Nat} (hD : D ≠ 0) : cosF (mkRat (m : Int) D) = mkRat ((D : Int) - m) (D + m) := by
  have h1 := mkn0 hD
  have h2 : ((D : Rat) + (m : Rat)) ≠ 0 := by
    have := mkn0 (D := D + m) (by omega)
    rwa [Rat.natCast_add] at this
  unfold cosF
  rw [Rat.mkRat_eq_div, Rat.mkRat_eq_div, Rat.natCast_add, Rat.intCast_sub, Rat.intCast_natCast, Rat.intCast_natCast]
  generalize (D : Rat) = d at *
  generalize (m : Rat) = k at *
  grind
theorem cosF_cn {m D B : Nat} (hD : D ≠ 0) (h : D + m ≤ B) : CN B (cosF (mkRat (m : Int) D)) := ⟨_, _, cosF_mk hD, by omega, h, by omega⟩
theorem sqr_mk (k : Int) (D : Nat) : mkRat k D * mkRat k D = mkRat ((k.natAbs * k.natAbs : Nat) : Int) (D * D) := by
  rw [mk_prod, Int.natCast_mul]; congr 1
  rcases Int.natAbs_eq k with h | h <;> rw [h] <;> simp [Int.neg_mul_neg]
theorem sinF_mk {k : Int} {D : Nat} (hD : D ≠ 0) : sinF (mkRat k D) = mkRat (2 * D * k) (D * D + k.natAbs * k.natAbs) := by
  have h1 := mkn0 hD
  have hk : ((k.natAbs * k.natAbs : Nat) : Int) = k * k := by
    rw [Int.natCast_mul]
    rcases Int.natAbs_eq k with h | h <;> rw [h] <;> simp [Int.neg_mul_neg]
  have e : ((D * D + k.natAbs * k.natAbs : Nat) : Rat) = (D : Rat) * D + (k : Rat) * k := by
    rw [Rat.natCast_add, Rat.natCast_mul]
    congr 1
    rw [← Rat.intCast_natCast, hk, Rat.intCast_mul]
  have h2 : ((D : Rat) * D + (k : Rat) * k) ≠ 0 := by
    rw [← e]; exact mkn0 (by have := Nat.mul_ne_zero hD hD; omega)
  unfold sinF
  rw [Rat.mkRat_eq_div, Rat.mkRat_eq_div, e, Rat.intCast_mul, Rat.intCast_mul, Rat.intCast_natCast]
  have e2 : ((2 : Int) : Rat) = 2 := rfl
  rw [e2]
  generalize (D : Rat) = d at *
  generalize (k : Rat) = z at *
  grind
theorem two_le (a b : Nat) : 2 * a * b ≤ a * a + b * b := by
  rcases Nat.le_total a b with h | h
  · obtain ⟨c, rfl⟩ : ∃ c, b = a + c := ⟨b - a, by omega⟩
    have : (a + c) * (a + c) = a * a + 2 * (a * c) + c * c := by rw [Nat.add_mul, Nat.mul_add, Nat.mul_add, Nat.mul_comm c a]; omega
    have h2 : 2 * a * (a + c) = 2 * (a * a) + 2 * (a * c) := by rw [Nat.mul_add, Nat.mul_assoc, Nat.mul_assoc]
    omega
  · obtain ⟨c, rfl⟩ : ∃ c, a = b + c := ⟨a - b, by omega⟩
    have : (b + c) * (b + c) = b * b + 2 * (b * c) + c * c := by rw [Nat.add_mul, Nat.mul_add, Nat.mul_add, Nat.mul_comm c b]; omega
    have h2 : 2 * (b + c) * b = 2 * (b * b) + 2 * (b * c) := by rw [Nat.mul_assoc, Nat.add_mul, Nat.mul_add, Nat.mul_comm c b]
    omega
theorem sinF_cn {k : Int} {D B : Nat} (hD : D ≠ 0) (h : D * D + k.natAbs * k.natAbs ≤ B) : CN B (sinF (mkRat k D)) := by
  refine ⟨_, _, sinF_mk hD, by have := Nat.mul_ne_zero hD hD; omega, h, ?_⟩
  rw [Int.natAbs_mul, Int.natAbs_mul, Int.natAbs_natCast]
  exact two_le D k.natAbs
/-- A product of a fraction and a coordinate. -/
def PN (B M : Nat) (q : Rat) : Prop := ∃ (n : Int) (N : Nat), q = mkRat n (120 * N) ∧ N ≠ 0 ∧ N ≤ B ∧ n.natAbs ≤ M * N
theorem PN.sq {B M : Nat} {q : Rat} (h : PN B M q) (hB : M * B < 268435456) (hB2 : 120 * B < 268435456) : SQ q := by
  obtain ⟨n, N, rfl, h0, h1, h2⟩ := h
  have := Nat.mul_le_mul_left M h1
  exact mk_sq (by omega) (by omega) (by omega)
theorem PN.min {B M : Nat} {a b : Rat} (h : PN B M a) (k : PN B M b) : PN B M (minQ a b) := by unfold minQ; split <;> assumption
theorem PN.max {B M : Nat} {a b : Rat} (h : PN B M a) (k : PN B M b) : PN B M (maxQ a b) := by unfold maxQ; split <;> assumption
theorem CN.mul {B : Nat} {c x : Rat} (h : CN B c) (k : P120 x) : PN B 960 (c * x) := by
  obtain ⟨n, N, rfl, h0, h1, h2⟩ := h
  obtain ⟨a, rfl, ha⟩ := k
  refine ⟨n * a, N, by rw [mk_prod, Nat.mul_comm N], h0, h1, ?_⟩
  rw [Int.natAbs_mul]
  have := Nat.mul_le_mul h2 ha
  rwa [Nat.mul_comm N] at this
theorem mul1_pn {B : Nat} {a b c : Rat} (ha : CN B a) (hb : CN B b) (hc : P120 c) : PN B 960 (mul1 a b c c) := ((((ha.mul hc).min (ha.mul hc)).min (hb.mul hc)).min (hb.mul hc))
theorem mul2_pn {B : Nat} {a b c : Rat} (ha : CN B a) (hb : CN B b) (hc : P120 c) : PN B 960 (mul2 a b c c) := ((((ha.mul hc).max (ha.mul hc)).max (hb.mul hc)).max (hb.mul hc))
theorem common {n m : Int} {N M : Nat} (hN : N ≠ 0) (hM : M ≠ 0) : mkRat n (120 * N) = mkRat (n * M) (120 * (N * M)) ∧ mkRat m (120 * M) = mkRat (m * N) (120 * (N * M)) :=
  ⟨by rw [mk_scale (E := M) (by omega) hM, Nat.mul_assoc], by rw [mk_scale (E := N) (by omega) hN, Nat.mul_assoc, Nat.mul_comm M N]⟩
theorem PN.add {B M : Nat} {a b : Rat} (h : PN B M a) (k : PN B M b) : PN (B * B) (2 * M) (a + b) := by
  obtain ⟨n, N, rfl, h0, h1, h2⟩ := h
  obtain ⟨m, K, rfl, k0, k1, k2⟩ := k
  obtain ⟨e1, e2⟩ := common (n := n) (m := m) h0 k0
  have hNK := Nat.mul_ne_zero h0 k0
  refine ⟨n * K + m * N, N * K, by rw [e1, e2, mk_add (by omega)], hNK, Nat.mul_le_mul h1 k1, ?_⟩
  have a1 := Nat.mul_le_mul_right K h2
  have a2 := Nat.mul_le_mul_right N k2
  have a3 := Int.natAbs_add_le (n * K) (m * N)
  rw [Int.natAbs_mul, Int.natAbs_mul, Int.natAbs_natCast, Int.natAbs_natCast] at a3
  rw [Nat.mul_assoc] at a1 a2
  rw [Nat.mul_comm K N] at a2
  rw [Nat.mul_assoc]
  omega
theorem PN.neg {B M : Nat} {a : Rat} (h : PN B M a) : PN B M (-a) := by
  obtain ⟨n, N, rfl, h0, h1, h2⟩ := h
  exact ⟨-n, N, neg_mkRat _ _, h0, h1, by rw [Int.natAbs_neg]; exact h2⟩
theorem PN.sub {B M : Nat} {a b : Rat} (h : PN B M a) (k : PN B M b) : PN (B * B) (2 * M) (a - b) := by
  rw [Rat.sub_eq_add_neg]; exact h.add k.neg
theorem PN.quarter {B M : Nat} {a : Rat} (h : PN B M a) {k : Int} (hk : k.natAbs ≤ 30) : PN B (M + 900) (mkRat k 4 + a) := by
  obtain ⟨n, N, rfl, h0, h1, h2⟩ := h
  refine ⟨k * (30 * N : Nat) + n, N, ?_, h0, h1, ?_⟩
  · rw [mk_scale (a := k) (D := 4) (E := 30 * N) (by decide) (by omega), show 4 * (30 * N) = 120 * N by omega, mk_add (by omega)]
  · have a3 := Int.natAbs_add_le (k * (30 * N : Nat)) n
    rw [Int.natAbs_mul, Int.natAbs_natCast] at a3
    have a4 := Nat.mul_le_mul_right (30 * N) hk
    rw [Nat.add_mul]
    omega
end Vg.G3
namespace Vg.G3
open Go Lg Vg.Nm
set_option linter.unusedSimpArgs false
set_option linter.unusedVariables false
set_option maxRecDepth 10000
set_option maxHeartbeats 4000000

theorem one_mkD {D : Nat} (h : D ≠ 0) : (1 : Rat) = mkRat (D : Int) D := by
  have := mk_scale (a := 1) (D := 1) (E := D) (by decide) h
  rw [one_mk, this]; congr 1 <;> omega
theorem SQm {m : Int} {D : Nat} (hD : D ≠ 0) (h1 : m.natAbs ≤ 10000) (h2 : D ≤ 10000) : SQ (mkRat m D) ∧ SQ (1 - mkRat m D) ∧ SQ (1 + mkRat m D) := by
  refine ⟨mk_sq (by omega) hD (by omega), ?_, ?_⟩
  · rw [one_mkD hD, mk_sub hD]; exact mk_sq (by omega) hD (by omega)
  · rw [one_mkD hD, mk_add hD]; exact mk_sq (by omega) hD (by omega)
theorem TQ_mk {k : Int} {D : Nat} (hD : D ≠ 0) (h1 : k.natAbs ≤ 100) (h2 : D ≤ 100) : TQ (mkRat k D) := by
  have e := sqr_mk k D
  have a1 : k.natAbs * k.natAbs ≤ 100 * 100 := Nat.mul_le_mul h1 h1
  have a2 : D * D ≤ 100 * 100 := Nat.mul_le_mul h2 h2
  obtain ⟨b1, b2, b3⟩ := SQm (m := ((k.natAbs * k.natAbs : Nat) : Int)) (D := D * D) (Nat.mul_ne_zero hD hD) (by omega) a2
  refine ⟨mk_sq (by omega) hD (by omega), by rw [e]; exact b1, by rw [e]; exact b2, by rw [e]; exact b3, ?_⟩
  rw [mk_add hD]; exact mk_sq (by omega) hD (by omega)
theorem P120.sq {x : Rat} (h : P120 x) : SQ x := by
  obtain ⟨k, rfl, hk⟩ := h
  exact mk_sq (by omega) (by decide) (by decide)
/-- What a square span of joint values is. -/
theorem sq_form {k1 k2 : Int} (h1 : -4 ≤ k1) (h : k1 ≤ k2) (h2 : k2 ≤ 10) : (∃ m : Nat, m ≤ 100 ∧ sq1 (mkRat k1 4) (mkRat k2 4) = mkRat (m : Int) 16) ∧ ∃ m : Nat, m ≤ 100 ∧ sq2 (mkRat k1 4) (mkRat k2 4) = mkRat (m : Int) 16 := by
  have e1 := sqr_mk k1 4
  have e2 := sqr_mk k2 4
  have a1 : k1.natAbs * k1.natAbs ≤ 10 * 10 := Nat.mul_le_mul (by omega) (by omega)
  have a2 : k2.natAbs * k2.natAbs ≤ 10 * 10 := Nat.mul_le_mul (by omega) (by omega)
  rw [show 4 * 4 = 16 from rfl] at e1 e2
  constructor
  · unfold sq1
    rw [e1, e2]
    split
    · exact ⟨0, by decide, (mk_zero 16).symm⟩
    · unfold minQ
      split
      · exact ⟨_, a1, rfl⟩
      · exact ⟨_, a2, rfl⟩
  · unfold sq2
    rw [e1, e2]
    unfold maxQ
    split
    · exact ⟨_, a1, rfl⟩
    · exact ⟨_, a2, rfl⟩
/-- A pose in quarters: the spans of the cosine and the sine, and the boxes of points. -/
theorem pose_pt {p : Po} {x1 x2 y1 y2 k1 k2 : Int} (pd : PD 4 p x1 x2 y1 y2 k1 k2) (hx1 : -20 ≤ x1) (hx2 : x2 ≤ 26) (hy1 : -20 ≤ y1) (hy2 : y2 ≤ 26) (h1 : -4 ≤ k1) (h2 : k2 ≤ 10) :
    ∃ c1 c2 s1 s2 : Rat, (∀ x y, P120 x → P120 y → PT p c1 c2 s1 s2 x y ∧ SQ (bX1 p c1 c2 s1 s2 x y) ∧ SQ (bX2 p c1 c2 s1 s2 x y) ∧ SQ (bY1 p c1 c2 s1 s2 x y) ∧ SQ (bY2 p c1 c2 s1 s2 x y)) ∧
      ∀ t, p.t1 ≤ t → t ≤ p.t2 → (c1 ≤ cosF (t * t) ∧ cosF (t * t) ≤ c2) ∧ (s1 ≤ sinF t ∧ sinF t ≤ s2) := by
  have hk := pd.t
  have ok := pd.ok
  have pxx := pd.x
  have pyy := pd.y
  obtain ⟨⟨m1, hm1, e1⟩, m2, hm2, e2⟩ := sq_form h1 hk h2
  obtain ⟨u1, u2, u3⟩ := SQm (m := (m1 : Int)) (D := 16) (by decide) (by omega) (by decide)
  obtain ⟨v1, v2, v3⟩ := SQm (m := (m2 : Int)) (D := 16) (by decide) (by omega) (by decide)
  have t1 : TQ (mkRat k1 4) := TQ_mk (by decide) (by omega) (by decide)
  have t2 : TQ (mkRat k2 4) := TQ_mk (by decide) (by omega) (by decide)
  have a1 : k1.natAbs * k1.natAbs ≤ 10 * 10 := Nat.mul_le_mul (by omega) (by omega)
  have a2 : k2.natAbs * k2.natAbs ≤ 10 * 10 := Nat.mul_le_mul (by omega) (by omega)
  have cs1 : CN 116 (sinF (mkRat k1 4)) := sinF_cn (by decide) (by omega)
  have cs2 : CN 116 (sinF (mkRat k2 4)) := sinF_cn (by decide) (by omega)
  have cc2 : CN 116 (cosF (sq1 (mkRat k1 4) (mkRat k2 4))) := by rw [e1]; exact cosF_cn (by decide) (by omega)
  have cc1 : CN 116 (cosF (sq2 (mkRat k1 4) (mkRat k2 4))) := by rw [e2]; exact cosF_cn (by decide) (by omega)
  have hsp : SP (mkRat k1 4) (mkRat k2 4) := mk_sp (by omega) hk (by omega) (by decide) (by decide)
  have hC := CosSpan_spec hsp t1.tt t2.tt (by rw [e1]; exact u1) (by rw [e1]; exact u2) (by rw [e1]; exact u3) (by rw [e2]; exact v1) (by rw [e2]; exact v2) (by rw [e2]; exact v3)
  have hS := SinSpan_spec hsp t1 t2 (cs1.sq (by decide)) (cs2.sq (by decide))
  have ca : CN 116 (snA (mkRat k1 4) (mkRat k2 4)) := by unfold snA; split <;> first | exact (cs1.min cs2).min (CN.mone (by decide)) | exact cs1.min cs2
  have cb : CN 116 (snB (mkRat k1 4) (mkRat k2 4)) := by unfold snB; split <;> first | exact (cs1.max cs2).max (CN.mone (by decide)) | exact cs1.max cs2
  have cn1 : CN 116 (sn1 (mkRat k1 4) (mkRat k2 4)) := by unfold sn1; split <;> first | exact ca.min (CN.one (by decide)) | exact ca
  have cn2 : CN 116 (sn2 (mkRat k1 4) (mkRat k2 4)) := by unfold sn2; split <;> first | exact cb.max (CN.one (by decide)) | exact cb
  have et1 : p.t1 = mkRat k1 4 := by rw [pd.eq]
  have et2 : p.t2 = mkRat k2 4 := by rw [pd.eq]
  have ex1 : p.x1 = mkRat x1 4 := by rw [pd.eq]
  have ex2 : p.x2 = mkRat x2 4 := by rw [pd.eq]
  have ey1 : p.y1 = mkRat y1 4 := by rw [pd.eq]
  have ey2 : p.y2 = mkRat y2 4 := by rw [pd.eq]
  have ctr : ∀ t, p.t1 ≤ t → t ≤ p.t2 → (cosF (sq2 (mkRat k1 4) (mkRat k2 4)) ≤ cosF (t * t) ∧ cosF (t * t) ≤ cosF (sq1 (mkRat k1 4) (mkRat k2 4))) ∧ (sn1 (mkRat k1 4) (mkRat k2 4) ≤ sinF t ∧ sinF t ≤ sn2 (mkRat k1 4) (mkRat k2 4)) := fun t ha hb => by
    rw [et1] at ha; rw [et2] at hb
    exact ⟨cos_in ha hb, sin_ge1 ha hb, sin_le2 ha hb⟩
  have cle : SP (cosF (sq2 (mkRat k1 4) (mkRat k2 4))) (cosF (sq1 (mkRat k1 4) (mkRat k2 4))) := ⟨cc1.sq (by decide), cc2.sq (by decide), by
    have := (ctr p.t1 Rat.le_refl ok.t.le).1
    exact Rat.le_trans this.1 this.2⟩
  refine ⟨_, _, _, _, fun x y hx hy => ?_, ctr⟩
  have q1 := mul1_pn cc1 cc2 hx
  have q2 := mul2_pn cc1 cc2 hx
  have q3 := mul1_pn cn1 cn2 hy
  have q4 := mul2_pn cn1 cn2 hy
  have q5 := mul1_pn cn1 cn2 hx
  have q6 := mul2_pn cn1 cn2 hx
  have q7 := mul1_pn cc1 cc2 hy
  have q8 := mul2_pn cc1 cc2 hy
  have d1 := q1.sub q4
  have d2 := q2.sub q3
  have d3 := q5.add q7
  have d4 := q6.add q8
  have le : ∀ {a b c : Rat}, a ≤ b → mul1 a b c c ≤ mul2 a b c c := fun {a b c} h => by have := mul_in (c := c) (x := a) Rat.le_refl h; exact Rat.le_trans this.1 this.2
  have lc := le (c := x) cle.le
  have lc' := le (c := y) cle.le
  have ls := le (c := x) (hS 0 []).2.le
  have ls' := le (c := y) (hS 0 []).2.le
  refine ⟨⟨ok, by rw [et1, et2]; exact hC, by rw [et1, et2]; exact fun lo h => (hS lo h).1, cle, (hS 0 []).2, hx.sq, hy.sq, (cc1.mul hx).sq (by decide) (by decide), (cc2.mul hx).sq (by decide) (by decide), (cn1.mul hy).sq (by decide) (by decide), (cn2.mul hy).sq (by decide) (by decide), (cn1.mul hx).sq (by decide) (by decide), (cn2.mul hx).sq (by decide) (by decide), (cc1.mul hy).sq (by decide) (by decide), (cc2.mul hy).sq (by decide) (by decide), ⟨d1.sq (by decide) (by decide), d2.sq (by decide) (by decide), by grind⟩, ⟨d3.sq (by decide) (by decide), d4.sq (by decide) (by decide), by grind⟩⟩, ?_, ?_, ?_, ?_⟩
  · unfold bX1; rw [ex1]; exact (d1.quarter (by omega)).sq (by decide) (by decide)
  · unfold bX2; rw [ex2]; exact (d2.quarter (by omega)).sq (by decide) (by decide)
  · unfold bY1; rw [ey1]; exact (d3.quarter (by omega)).sq (by decide) (by decide)
  · unfold bY2; rw [ey2]; exact (d4.quarter (by omega)).sq (by decide) (by decide)
/-- A frame's point: what turning it asks. -/
theorem frame_pt {k a b : Int} {x y : Rat} (hk : k.natAbs ≤ 80) (ha : a.natAbs ≤ 300) (hb : b.natAbs ≤ 300) (hx : P120 x) (hy : P120 y) : VT x y (mkRat k 32) ∧ SQ (trX x y (mkRat k 32)) ∧ SQ (trY x y (mkRat k 32)) ∧ SQ (mkRat a 32 + trX x y (mkRat k 32)) ∧ SQ (mkRat b 32 + trY x y (mkRat k 32)) := by
  have a1 : k.natAbs * k.natAbs ≤ 80 * 80 := Nat.mul_le_mul hk hk
  have tq : TQ (mkRat k 32) := TQ_mk (by decide) (by omega) (by decide)
  have ec : cosF (mkRat k 32 * mkRat k 32) = mkRat ((1024 : Nat) - (k.natAbs * k.natAbs : Nat)) (1024 + k.natAbs * k.natAbs) := by rw [sqr_mk]; exact cosF_mk (by decide)
  have es : sinF (mkRat k 32) = mkRat (64 * k) (1024 + k.natAbs * k.natAbs) := sinF_mk (k := k) (D := 32) (by decide)
  have b1 := two_le 32 k.natAbs
  obtain ⟨N, hN⟩ : ∃ N, 1024 + k.natAbs * k.natAbs = N := ⟨_, rfl⟩
  rw [hN] at ec es
  have hN0 : N ≠ 0 := by omega
  have hNB : N ≤ 7424 := by omega
  obtain ⟨c, hc⟩ : ∃ c : Int, ((1024 : Nat) : Int) - (k.natAbs * k.natAbs : Nat) = c := ⟨_, rfl⟩
  rw [hc] at ec
  have hcN : c.natAbs ≤ N := by omega
  obtain ⟨s, hs⟩ : ∃ s : Int, 64 * k = s := ⟨_, rfl⟩
  rw [hs] at es
  have hsN : s.natAbs ≤ N := by omega
  have cC : CN 7424 (cosF (mkRat k 32 * mkRat k 32)) := ⟨c, N, ec, hN0, hNB, hcN⟩
  have cS : CN 7424 (sinF (mkRat k 32)) := ⟨s, N, es, hN0, hNB, hsN⟩
  have comm : ∀ {q : Rat} {z : Rat}, CN 7424 q → P120 z → SQ (z * q) := fun hq hz => by rw [Rat.mul_comm]; exact (hq.mul hz).sq (by decide) (by decide)
  obtain ⟨xk, ex, hxk⟩ := id hx
  obtain ⟨yk, ey, hyk⟩ := id hy
  have m1 : (xk * c).natAbs ≤ 960 * N := by rw [Int.natAbs_mul]; exact Nat.mul_le_mul hxk hcN
  have m2 : (yk * s).natAbs ≤ 960 * N := by rw [Int.natAbs_mul]; exact Nat.mul_le_mul hyk hsN
  have m3 : (xk * s).natAbs ≤ 960 * N := by rw [Int.natAbs_mul]; exact Nat.mul_le_mul hxk hsN
  have m4 : (yk * c).natAbs ≤ 960 * N := by rw [Int.natAbs_mul]; exact Nat.mul_le_mul hyk hcN
  have e1 : trX x y (mkRat k 32) = mkRat (xk * c - yk * s) (120 * N) := by unfold trX; rw [ec, es, ex, ey, mk_prod, mk_prod, mk_sub (by omega)]
  have e2 : trY x y (mkRat k 32) = mkRat (xk * s + yk * c) (120 * N) := by unfold trY; rw [ec, es, ex, ey, mk_prod, mk_prod, mk_add (by omega)]
  have put : ∀ {a z : Int}, a.natAbs ≤ 300 → z.natAbs ≤ 1920 * N → SQ (mkRat a 32 + mkRat z (120 * N)) := fun {a z} ha hz => by
    rw [mk_scale (a := a) (D := 32) (E := 15 * N) (by decide) (by omega), mk_scale (a := z) (D := 120 * N) (E := 4) (by omega) (by decide), show 32 * (15 * N) = 480 * N by omega, show 120 * N * 4 = 480 * N by omega, mk_add (by omega)]
    refine mk_sq ?_ (by omega) (by omega)
    have h1 := Int.natAbs_add_le (a * (15 * N : Nat)) (z * (4 : Nat))
    rw [Int.natAbs_mul, Int.natAbs_mul, Int.natAbs_natCast, Int.natAbs_natCast] at h1
    have h2 := Nat.mul_le_mul_right (15 * N) ha
    omega
  refine ⟨⟨hx.sq, hy.sq, tq, cC.sq (by decide), cS.sq (by decide), comm cC hx, comm cS hy, comm cS hx, comm cC hy⟩, ?_, ?_, ?_, ?_⟩
  · rw [e1]; exact mk_sq (by omega) (by omega) (by omega)
  · rw [e2]; exact mk_sq (by omega) (by omega) (by omega)
  · rw [e1]; exact put ha (by omega)
  · rw [e2]; exact put hb (by omega)
end Vg.G3
