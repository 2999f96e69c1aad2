import Derived.Test.YtpclbojoknhnlaaDoorVS6
namespace Vg.G3
open Go Lg Vg.Nm
set_option linter.unusedSimpArgs false
set_option linter.unusedVariables false
set_option maxRecDepth 10000
set_option maxHeartbeats 4000000

/-! Plain: sines and cosines between bounds. -/
theorem div_le {x y z w : Rat} (hy : 0 < y) (hw : 0 < w) (h : x * w ≤ z * y) : x / y ≤ z / w := by
  have hc : 0 < (y * w)⁻¹ := Rat.inv_pos.2 (Rat.mul_pos hy hw)
  have h1 := Rat.mul_le_mul_of_nonneg_right h (Rat.le_of_lt hc)
  have y0 : y ≠ 0 := by intro e; rw [e] at hy; exact absurd hy (by decide)
  have w0 : w ≠ 0 := by intro e; rw [e] at hw; exact absurd hw (by decide)
  have e1 : x / y = x * w * (y * w)⁻¹ := by grind
  have e2 : z / w = z * y * (y * w)⁻¹ := by grind
  rw [e1, e2]; exact h1
theorem cosF_anti {u v : Rat} (h0 : 0 ≤ u) (h : u ≤ v) : cosF v ≤ cosF u := by
  unfold cosF
  refine div_le (by grind) (by grind) ?_
  grind
theorem sq_le {u v : Rat} (h0 : 0 ≤ u) (h : u ≤ v) : u * u ≤ v * v := by
  have h1 := Rat.mul_nonneg (show 0 ≤ v - u by grind) (show 0 ≤ v + u by grind)
  grind
theorem sq1_le {a b t : Rat} (h1 : a ≤ t) (h2 : t ≤ b) : sq1 a b ≤ t * t := by
  unfold sq1
  by_cases hc : a ≤ 0 ∧ 0 ≤ b
  · rw [if_pos hc]; exact sq_nonneg t
  · rw [if_neg hc]
    by_cases ha : a ≤ 0
    · have hb : b < 0 := Rat.not_le.1 fun h => hc ⟨ha, h⟩
      refine Rat.le_trans min_le2 ?_
      have := sq_le (u := -b) (v := -t) (by grind) (by grind)
      grind
    · exact Rat.le_trans min_le1 (sq_le (by grind) h1)
theorem le_sq2 {a b t : Rat} (h1 : a ≤ t) (h2 : t ≤ b) : t * t ≤ sq2 a b := by
  unfold sq2
  rcases (Rat.le_total : (0 : Rat) ≤ t ∨ t ≤ 0) with h | h
  · exact Rat.le_trans (sq_le h h2) le_max2
  · refine Rat.le_trans ?_ le_max1
    have := sq_le (u := -t) (v := -a) (by grind) (by grind)
    grind
theorem cos_in {a b t : Rat} (h1 : a ≤ t) (h2 : t ≤ b) : cosF (sq2 a b) ≤ cosF (t * t) ∧ cosF (t * t) ≤ cosF (sq1 a b) :=
  ⟨cosF_anti (sq_nonneg t) (le_sq2 h1 h2), cosF_anti (sq1_nonneg a b) (sq1_le h1 h2)⟩
theorem sin_up {u v : Rat} (h : u ≤ v) (h1 : u * v ≤ 1) : sinF u ≤ sinF v := by
  unfold sinF
  refine div_le (one_pos u) (one_pos v) ?_
  have := Rat.mul_nonneg (show 0 ≤ v - u by grind) (show 0 ≤ 1 - u * v by grind)
  grind
theorem sin_down {u v : Rat} (h : v ≤ u) (h1 : 1 ≤ u * v) : sinF u ≤ sinF v := by
  unfold sinF
  refine div_le (one_pos u) (one_pos v) ?_
  have := Rat.mul_nonneg (show 0 ≤ u - v by grind) (show 0 ≤ u * v - 1 by grind)
  grind
theorem prod_le {u v : Rat} (h1 : -1 ≤ u) (h2 : u ≤ 1) (h3 : -1 ≤ v) (h4 : v ≤ 1) : u * v ≤ 1 := by
  have a := Rat.mul_nonneg (show 0 ≤ 1 - u by grind) (show 0 ≤ 1 + v by grind)
  have b := Rat.mul_nonneg (show 0 ≤ 1 + u by grind) (show 0 ≤ 1 - v by grind)
  grind
theorem prod_ge {u v : Rat} (h1 : 1 ≤ u) (h2 : 1 ≤ v) : 1 ≤ u * v := by
  have a := Rat.mul_nonneg (show 0 ≤ u - 1 by grind) (show 0 ≤ v - 1 by grind)
  grind
theorem prod_ge' {u v : Rat} (h1 : u ≤ -1) (h2 : v ≤ -1) : 1 ≤ u * v := by
  have a := Rat.mul_nonneg (show 0 ≤ -u - 1 by grind) (show 0 ≤ -v - 1 by grind)
  grind
theorem sin_one (t : Rat) : sinF t ≤ 1 := by
  have h := div_le (x := t + t) (y := 1 + t * t) (z := 1) (w := 1) (one_pos t) (by decide) (by have := sq_nonneg (t - 1); grind)
  unfold sinF; grind
theorem sin_mone (t : Rat) : -1 ≤ sinF t := by
  have h := div_le (x := -1) (y := 1) (z := t + t) (w := 1 + t * t) (by decide) (one_pos t) (by have := sq_nonneg (t + 1); grind)
  unfold sinF; grind
theorem sin_le2 {a b t : Rat} (h1 : a ≤ t) (h2 : t ≤ b) : sinF t ≤ sn2 a b := by
  have hA : sinF a ≤ snB a b := by unfold snB; split <;> first | exact Rat.le_trans le_max1 le_max1 | exact le_max1
  have hB : sinF b ≤ snB a b := by unfold snB; split <;> first | exact Rat.le_trans le_max2 le_max1 | exact le_max2
  unfold sn2
  by_cases hc : a ≤ 1 ∧ 1 ≤ b
  · rw [if_pos hc]; exact Rat.le_trans (sin_one t) le_max2
  · rw [if_neg hc]
    by_cases ha : a ≤ 1
    · have hb : b < 1 := Rat.not_le.1 fun h => hc ⟨ha, h⟩
      rcases (Rat.le_total : (-1 : Rat) ≤ t ∨ t ≤ -1) with h | h
      · exact Rat.le_trans (sin_up h2 (prod_le h (by grind) (by grind) (by grind))) hB
      · exact Rat.le_trans (sin_down h1 (prod_ge' h (by grind))) hA
    · exact Rat.le_trans (sin_down h1 (prod_ge (by grind) (by grind))) hA
theorem sin_ge1 {a b t : Rat} (h1 : a ≤ t) (h2 : t ≤ b) : sn1 a b ≤ sinF t := by
  have hs : sn1 a b ≤ snA a b := by unfold sn1; split <;> first | exact min_le1 | exact Rat.le_refl
  refine Rat.le_trans hs ?_
  unfold snA
  by_cases hc : a ≤ -1 ∧ -1 ≤ b
  · rw [if_pos hc]; exact Rat.le_trans min_le2 (sin_mone t)
  · rw [if_neg hc]
    by_cases ha : a ≤ -1
    · have hb : b < -1 := Rat.not_le.1 fun h => hc ⟨ha, h⟩
      exact Rat.le_trans min_le2 (sin_down h2 (prod_ge' (by grind) (by grind)))
    · rcases (Rat.le_total : (1 : Rat) ≤ t ∨ t ≤ 1) with h | h
      · exact Rat.le_trans min_le2 (sin_down h2 (prod_ge (by grind) h))
      · exact Rat.le_trans min_le1 (sin_up h1 (prod_le (by grind) (by grind) (by grind) h))
theorem mul_in {a b x c : Rat} (h1 : a ≤ x) (h2 : x ≤ b) : mul1 a b c c ≤ x * c ∧ x * c ≤ mul2 a b c c := by
  have l1 : mul1 a b c c ≤ a * c := Rat.le_trans min_le1 (Rat.le_trans min_le1 min_le1)
  have l2 : mul1 a b c c ≤ b * c := min_le2
  have g1 : a * c ≤ mul2 a b c c := Rat.le_trans (Rat.le_trans le_max1 le_max1) le_max1
  have g2 : b * c ≤ mul2 a b c c := le_max2
  rcases (Rat.le_total : (0 : Rat) ≤ c ∨ c ≤ 0) with h | h
  · exact ⟨Rat.le_trans l1 (Rat.mul_le_mul_of_nonneg_right h1 h), Rat.le_trans (Rat.mul_le_mul_of_nonneg_right h2 h) g2⟩
  · have a1 := Rat.mul_le_mul_of_nonneg_right h1 (show 0 ≤ -c by grind)
    have a2 := Rat.mul_le_mul_of_nonneg_right h2 (show 0 ≤ -c by grind)
    exact ⟨by grind, by grind⟩
/-- A point of a frame in a pose is in the point's box. -/
theorem point_in {p : Po} {c1 c2 s1 s2 x y fx fy t : Rat} (hin : p.In fx fy t) (hc : c1 ≤ cosF (t * t) ∧ cosF (t * t) ≤ c2) (hs : s1 ≤ sinF t ∧ sinF t ≤ s2) :
    (bX1 p c1 c2 s1 s2 x y ≤ fx + trX x y t ∧ fx + trX x y t ≤ bX2 p c1 c2 s1 s2 x y) ∧ (bY1 p c1 c2 s1 s2 x y ≤ fy + trY x y t ∧ fy + trY x y t ≤ bY2 p c1 c2 s1 s2 x y) := by
  obtain ⟨⟨⟨a1, a2⟩, a3, a4⟩, _, _⟩ := hin
  have m1 := mul_in (c := x) hc.1 hc.2
  have m2 := mul_in (c := y) hs.1 hs.2
  have m3 := mul_in (c := x) hs.1 hs.2
  have m4 := mul_in (c := y) hc.1 hc.2
  unfold bX1 bX2 bY1 bY2 trX trY
  generalize mul1 c1 c2 x x = M1 at *
  generalize mul2 c1 c2 x x = M2 at *
  generalize mul1 s1 s2 y y = M3 at *
  generalize mul2 s1 s2 y y = M4 at *
  generalize mul1 s1 s2 x x = M5 at *
  generalize mul2 s1 s2 x x = M6 at *
  generalize mul1 c1 c2 y y = M7 at *
  generalize mul2 c1 c2 y y = M8 at *
  generalize cosF (t * t) = c at *
  generalize sinF t = s at *
  refine ⟨⟨?_, ?_⟩, ?_, ?_⟩ <;> grind
end Vg.G3
namespace Vg.G3
open Go Lg Vg.Nm
set_option linter.unusedSimpArgs false
set_option linter.unusedVariables false
set_option maxRecDepth 10000
set_option maxHeartbeats 4000000

/-! The sizes of the numbers. -/
/-- A fraction of size at most 1. -/
def CN (B : Nat) (c : Rat) : Prop := ∃ (n : Int) (N : Nat), c = mkRat n N ∧ N ≠ 0 ∧ N ≤ B ∧ n.natAbs ≤ N
theorem CN.sq {B : Nat} {c : Rat} (h : CN B c) (hB : B < 268435456) : SQ c := by
  obtain ⟨n, N, rfl, h0, h1, h2⟩ := h
  exact mk_sq (by omega) h0 (by omega)
theorem CN.min {B : Nat} {a b : Rat} (h : CN B a) (k : CN B b) : CN B (minQ a b) := by unfold minQ; split <;> assumption
theorem CN.max {B : Nat} {a b : Rat} (h : CN B a) (k : CN B b) : CN B (maxQ a b) := by unfold maxQ; split <;> assumption
theorem one_mk : (1 : Rat) = mkRat 1 1 := by decide
theorem CN.one {B : Nat} (h : 1 ≤ B) : CN B 1 := ⟨1, 1, one_mk, by decide, h, by decide⟩
theorem CN.mone {B : Nat} (h : 1 ≤ B) : CN B (-1) := ⟨-1, 1, by decide, by decide, h, by decide⟩
theorem cosF_mk {m D : Nat} (hD : D ≠ 0) : cosF (mkRat (m : Int) D) = mkRat ((D : Int) - m) (D + m) := by
  have h1 := mkn0 hD
  have h2 : ((D : Rat) + (m : Rat)) ≠ 0 := by
    have := mkn0 (D := D + m) (by omega)
    rwa [Rat.natCast_add] at this
  unfold cosF
  rw [Rat.mkRat_eq_div, Rat.mkRat_eq_div, Rat.natCast_add, Rat.intCast_sub, Rat.intCast_natCast, Rat.intCast_natCast]
  generalize (D : Rat) = d at *
  generalize (m : Rat) = k at *
  grind
theorem cosF_cn {m D B : Nat} (hD : D ≠ 0) (h : D + m ≤ B) : CN B (cosF (mkRat (m : Int) D)) := ⟨_, _, cosF_mk hD, by omega, h, by omega⟩
theorem sqr_mk (k : Int) (D : Nat) : mkRat k D * mkRat k D = mkRat ((k.natAbs * k.natAbs : Nat) : Int) (D * D) := by
  rw [mk_prod, Int.natCast_mul]; congr 1
  rcases Int.natAbs_eq k with h | h <;> rw [h] <;> simp [Int.neg_mul_neg]
theorem sinF_mk {k : Int} {D : Nat} (hD : D ≠ 0) : sinF (mkRat k D) = mkRat (2 * D * k) (D * D + k.natAbs * k.natAbs) := by
  have h1 := mkn0 hD
  have hk : ((k.natAbs * k.natAbs : Nat) : Int) = k * k := by
    rw [Int.natCast_mul]
    rcases Int.natAbs_eq k with h | h <;> rw [h] <;> simp [Int.neg_mul_neg]
  have e : ((D * D + k.natAbs * k.natAbs : Nat) : Rat) = (D : Rat) * D + (k : Rat) * k := by
    rw [Rat.natCast_add, Rat.natCast_mul]
    congr 1
    rw [← Rat.intCast_natCast, hk, Rat.intCast_mul]
  have h2 : ((D : Rat) * D + (k : Rat) * k) ≠ 0 := by
    rw [← e]; exact mkn0 (by have := Nat.mul_ne_zero hD hD; omega)
  unfold sinF
  rw [Rat.mkRat_eq_div, Rat.mkRat_eq_div, e, Rat.intCast_mul, Rat.intCast_mul, Rat.intCast_natCast]
  have e2 : ((2 : Int) : Rat) = 2 := rfl
  rw [e2]
  generalize (D : Rat) = d at *
  generalize (k : Rat) = z at *
  grind
theorem two_le (a b : Nat) : 2 * a * b ≤ a * a + b * b := by
  rcases Nat.le_total a b with h | h
  · obtain ⟨c, rfl⟩ : ∃ c, b = a + c := ⟨b - a, by omega⟩
    have : (a + c) * (a + c) = a * a + 2 * (a * c) + c * c := by rw [Nat.add_mul, Nat.mul_add, Nat.mul_add, Nat.mul_comm c a]; omega
    have h2 : 2 * a * (a + c) = 2 * (a * a) + 2 * (a * c) := by rw [Nat.mul_add, Nat.mul_assoc, Nat.mul_assoc]
    omega
  · obtain ⟨c, rfl⟩ : ∃ c, a = b + c := ⟨a - b, by omega⟩
    have : (b + c) * (b + c) = b * b + 2 * (b * c) + c * c := by rw [Nat.add_mul, Nat.mul_add, Nat.mul_add, Nat.mul_comm c b]; omega
    have h2 : 2 * (b + c) * b = 2 * (b * b) + 2 * (b * c) := by rw [Nat.mul_assoc, Nat.add_mul, Nat.mul_add, Nat.mul_comm c b]
    omega
theorem sinF_cn {k : Int} {D B : Nat} (hD : D ≠ 0) (h : D * D + k.natAbs * k.natAbs ≤ B) : CN B (sinF (mkRat k D)) := by
  refine ⟨_, _, sinF_mk hD, by have := Nat.mul_ne_zero hD hD; omega, h, ?_⟩
  rw [Int.natAbs_mul, Int.natAbs_mul, Int.natAbs_natCast]
  exact two_le D k.natAbs
/-- A product of a fraction and a coordinate. -/
def PN (B M : Nat) (q : Rat) : Prop := ∃ (n : Int) (N : Nat), q = mkRat n (120 * N) ∧ N ≠ 0 ∧ N ≤ B ∧ n.natAbs ≤ M * N
theorem PN.sq {B M : Nat} {q : Rat} (h : PN B M q) (hB : M * B < 268435456) (hB2 : 120 * B < 268435456) : SQ q := by
  obtain ⟨n, N, rfl, h0, h1, h2⟩ := h
  have := Nat.mul_le_mul_left M h1
  exact mk_sq (by omega) (by omega) (by omega)
theorem PN.min {B M : Nat} {a b : Rat} (h : PN B M a) (k : PN B M b) : PN B M (minQ a b) := by unfold minQ; split <;> assumption
theorem PN.max {B M : Nat} {a b : Rat} (h : PN B M a) (k : PN B M b) : PN B M (maxQ a b) := by unfold maxQ; split <;> assumption
theorem CN.mul {B : Nat} {c x : Rat} (h : CN B c) (k : P120 x) : PN B 960 (c * x) := by
  obtain ⟨n, N, rfl, h0, h1, h2⟩ := h
  obtain ⟨a, rfl, ha⟩ := k
  refine ⟨n * a, N, by rw [mk_prod, Nat.mul_comm N], h0, h1, ?_⟩
  rw [Int.natAbs_mul]
  have := Nat.mul_le_mul h2 ha
  rwa [Nat.mul_comm N] at this
theorem mul1_pn {B : Nat} {a b c : Rat} (ha : CN B a) (hb : CN B b) (hc : P120 c) : PN B 960 (mul1 a b c c) := ((((ha.mul hc).min (ha.mul hc)).min (hb.mul hc)).min (hb.mul hc))
theorem mul2_pn {B : Nat} {a b c : Rat} (ha : CN B a) (hb : CN B b) (hc : P120 c) : PN B 960 (mul2 a b c c) := ((((ha.mul hc).max (ha.mul hc)).max (hb.mul hc)).max (hb.mul hc))
theorem common {n m : Int} {N M : Nat} (hN : N ≠ 0) (hM : M ≠ 0) : mkRat n (120 * N) = mkRat (n * M) (120 * (N * M)) ∧ mkRat m (120 * M) = mkRat (m * N) (120 * (N * M)) :=
  ⟨by rw [mk_scale (E := M) (by omega) hM, Nat.mul_assoc], by rw [mk_scale (E := N) (by omega) hN, Nat.mul_assoc, Nat.mul_comm M N]⟩
theorem PN.add {B M : Nat} {a b : Rat} (h : PN B M a) (k : PN B M b) : PN (B * B) (2 * M) (a + b) := by
  obtain ⟨n, N, rfl, h0, h1, h2⟩ := h
  obtain ⟨m, K, rfl, k0, k1, k2⟩ := k
  obtain ⟨e1, e2⟩ := common (n := n) (m := m) h0 k0
  have hNK := Nat.mul_ne_zero h0 k0
  refine ⟨n * K + m * N, N * K, by rw [e1, e2, mk_add (by omega)], hNK, Nat.mul_le_mul h1 k1, ?_⟩
  have a1 := Nat.mul_le_mul_right K h2
  have a2 := Nat.mul_le_mul_right N k2
  have a3 := Int.natAbs_add_le (n * K) (m * N)
  rw [Int.natAbs_mul, Int.natAbs_mul, Int.natAbs_natCast, Int.natAbs_natCast] at a3
  rw [Nat.mul_assoc] at a1 a2
  rw [Nat.mul_comm K N] at a2
  rw [Nat.mul_assoc]
  omega
theorem PN.neg {B M : Nat} {a : Rat} (h : PN B M a) : PN B M (-a) := by
  obtain ⟨n, N, rfl, h0, h1, h2⟩ := h
  exact ⟨-n, N, neg_mkRat _ _, h0, h1, by rw [Int.natAbs_neg]; exact h2⟩
theorem PN.sub {B M : Nat} {a b : Rat} (h : PN B M a) (k : PN B M b) : PN (B * B) (2 * M) (a - b) := by
  rw [Rat.sub_eq_add_neg]; exact h.add k.neg
theorem PN.quarter {B M : Nat} {a : Rat} (h : PN B M a) {k : Int} (hk : k.natAbs ≤ 30) : PN B (M + 900) (mkRat k 4 + a) := by
  obtain ⟨n, N, rfl, h0, h1, h2⟩ := h
  refine ⟨k * (30 * N : Nat) + n, N, ?_, h0, h1, ?_⟩
  · rw [mk_scale (a := k) (D := 4) (E := 30 * N) (by decide) (by omega), show 4 * (30 * N) = 120 * N by omega, mk_add (by omega)]
  · have a3 := Int.natAbs_add_le (k * (30 * N : Nat)) n
    rw [Int.natAbs_mul, Int.natAbs_natCast] at a3
    have a4 := Nat.mul_le_mul_right (30 * N) hk
    rw [Nat.add_mul]
    omega
end Vg.G3
namespace Vg.G3
open Go Lg Vg.Nm
set_option linter.unusedSimpArgs false
set_option linter.unusedVariables false
set_option maxRecDepth 10000
set_option maxHeartbeats 4000000

theorem one_mkD {D : Nat} (h : D ≠ 0) : (1 : Rat) = mkRat (D : Int) D := by
  have := mk_scale (a := 1) (D := 1) (E := D) (by decide) h
  rw [one_mk, this]; congr 1 <;> omega
theorem SQm {m : Int} {D : Nat} (hD : D ≠ 0) (h1 : m.natAbs ≤ 10000) (h2 : D ≤ 10000) : SQ (mkRat m D) ∧ SQ (1 - mkRat m D) ∧ SQ (1 + mkRat m D) := by
  refine ⟨mk_sq (by omega) hD (by omega), ?_, ?_⟩
  · rw [one_mkD hD, mk_sub hD]; exact mk_sq (by omega) hD (by omega)
  · rw [one_mkD hD, mk_add hD]; exact mk_sq (by omega) hD (by omega)
theorem TQ_mk {k : Int} {D : Nat} (hD : D ≠ 0) (h1 : k.natAbs ≤ 100) (h2 : D ≤ 100) : TQ (mkRat k D) := by
  have e := sqr_mk k D
  have a1 : k.natAbs * k.natAbs ≤ 100 * 100 := Nat.mul_le_mul h1 h1
  have a2 : D * D ≤ 100 * 100 := Nat.mul_le_mul h2 h2
  obtain ⟨b1, b2, b3⟩ := SQm (m := ((k.natAbs * k.natAbs : Nat) : Int)) (D := D * D) (Nat.mul_ne_zero hD hD) (by omega) a2
  refine ⟨mk_sq (by omega) hD (by omega), by rw [e]; exact b1, by rw [e]; exact b2, by rw [e]; exact b3, ?_⟩
  rw [mk_add hD]; exact mk_sq (by omega) hD (by omega)
theorem P120.sq {x : Rat} (h : P120 x) : SQ x := by
  obtain ⟨k, rfl, hk⟩ := h
  exact mk_sq (by omega) (by decide) (by decide)
/-- What a square span of joint values is. -/
theorem sq_form {k1 k2 : Int} (h1 : -4 ≤ k1) (h : k1 ≤ k2) (h2 : k2 ≤ 10) : (∃ m : Nat, m ≤ 100 ∧ sq1 (mkRat k1 4) (mkRat k2 4) = mkRat (m : Int) 16) ∧ ∃ m : Nat, m ≤ 100 ∧ sq2 (mkRat k1 4) (mkRat k2 4) = mkRat (m : Int) 16 := by
  have e1 := sqr_mk k1 4
  have e2 := sqr_mk k2 4
  have a1 : k1.natAbs * k1.natAbs ≤ 10 * 10 := Nat.mul_le_mul (by omega) (by omega)
  have a2 : k2.natAbs * k2.natAbs ≤ 10 * 10 := Nat.mul_le_mul (by omega) (by omega)
  rw [show 4 * 4 = 16 from rfl] at e1 e2
  constructor
  · unfold sq1
    rw [e1, e2]
    split
    · exact ⟨0, by decide, (mk_zero 16).symm⟩
    · unfold minQ
      split
      · exact ⟨_, a1, rfl⟩
      · exact ⟨_, a2, rfl⟩
  · unfold sq2
    rw [e1, e2]
    unfold maxQ
    split
    · exact ⟨_, a1, rfl⟩
    · exact ⟨_, a2, rfl⟩
/-- A pose in quarters: the spans of the cosine and the sine, and the boxes of points. -/
theorem pose_pt {p : Po} {x1 x2 y1 y2 k1 k2 : Int} (pd : PD 4 p x1 x2 y1 y2 k1 k2) (hx1 : -20 ≤ x1) (hx2 : x2 ≤ 26) (hy1 : -20 ≤ y1) (hy2 : y2 ≤ 26) (h1 : -4 ≤ k1) (h2 : k2 ≤ 10) :
    ∃ c1 c2 s1 s2 : Rat, (∀ x y, P120 x → P120 y → PT p c1 c2 s1 s2 x y ∧ SQ (bX1 p c1 c2 s1 s2 x y) ∧ SQ (bX2 p c1 c2 s1 s2 x y) ∧ SQ (bY1 p c1 c2 s1 s2 x y) ∧ SQ (bY2 p c1 c2 s1 s2 x y)) ∧
      ∀ t, p.t1 ≤ t → t ≤ p.t2 → (c1 ≤ cosF (t * t) ∧ cosF (t * t) ≤ c2) ∧ (s1 ≤ sinF t ∧ sinF t ≤ s2) := by
  have hk := pd.t
  have ok := pd.ok
  have pxx := pd.x
  have pyy := pd.y
  obtain ⟨⟨m1, hm1, e1⟩, m2, hm2, e2⟩ := sq_form h1 hk h2
  obtain ⟨u1, u2, u3⟩ := SQm (m := (m1 : Int)) (D := 16) (by decide) (by omega) (by decide)
  obtain ⟨v1, v2, v3⟩ := SQm (m := (m2 : Int)) (D := 16) (by decide) (by omega) (by decide)
  have t1 : TQ (mkRat k1 4) := TQ_mk (by decide) (by omega) (by decide)
  have t2 : TQ (mkRat k2 4) := TQ_mk (by decide) (by omega) (by decide)
  have a1 : k1.natAbs * k1.natAbs ≤ 10 * 10 := Nat.mul_le_mul (by omega) (by omega)
  have a2 : k2.natAbs * k2.natAbs ≤ 10 * 10 := Nat.mul_le_mul (by omega) (by omega)
  have cs1 : CN 116 (sinF (mkRat k1 4)) := sinF_cn (by decide) (by omega)
  have cs2 : CN 116 (sinF (mkRat k2 4)) := sinF_cn (by decide) (by omega)
  have cc2 : CN 116 (cosF (sq1 (mkRat k1 4) (mkRat k2 4))) := by rw [e1]; exact cosF_cn (by decide) (by omega)
  have cc1 : CN 116 (cosF (sq2 (mkRat k1 4) (mkRat k2 4))) := by rw [e2]; exact cosF_cn (by decide) (by omega)
  have hsp : SP (mkRat k1 4) (mkRat k2 4) := mk_sp (by omega) hk (by omega) (by decide) (by decide)
  have hC := CosSpan_spec hsp t1.tt t2.tt (by rw [e1]; exact u1) (by rw [e1]; exact u2) (by rw [e1]; exact u3) (by rw [e2]; exact v1) (by rw [e2]; exact v2) (by rw [e2]; exact v3)
  have hS := SinSpan_spec hsp t1 t2 (cs1.sq (by decide)) (cs2.sq (by decide))
  have ca : CN 116 (snA (mkRat k1 4) (mkRat k2 4)) := by unfold snA; split <;> first | exact (cs1.min cs2).min (CN.mone (by decide)) | exact cs1.min cs2
  have cb : CN 116 (snB (mkRat k1 4) (mkRat k2 4)) := by unfold snB; split <;> first | exact (cs1.max cs2).max (CN.mone (by decide)) | exact cs1.max cs2
  have cn1 : CN 116 (sn1 (mkRat k1 4) (mkRat k2 4)) := by unfold sn1; split <;> first | exact ca.min (CN.one (by decide)) | exact ca
  have cn2 : CN 116 (sn2 (mkRat k1 4) (mkRat k2 4)) := by unfold sn2; split <;> first | exact cb.max (CN.one (by decide)) | exact cb
  have et1 : p.t1 = mkRat k1 4 := by rw [pd.eq]
  have et2 : p.t2 = mkRat k2 4 := by rw [pd.eq]
  have ex1 : p.x1 = mkRat x1 4 := by rw [pd.eq]
  have ex2 : p.x2 = mkRat x2 4 := by rw [pd.eq]
  have ey1 : p.y1 = mkRat y1 4 := by rw [pd.eq]
  have ey2 : p.y2 = mkRat y2 4 := by rw [pd.eq]
  have ctr : ∀ t, p.t1 ≤ t → t ≤ p.t2 → (cosF (sq2 (mkRat k1 4) (mkRat k2 4)) ≤ cosF (t * t) ∧ cosF (t * t) ≤ cosF (sq1 (mkRat k1 4) (mkRat k2 4))) ∧ (sn1 (mkRat k1 4) (mkRat k2 4) ≤ sinF t ∧ sinF t ≤ sn2 (mkRat k1 4) (mkRat k2 4)) := fun t ha hb => by
    rw [et1] at ha; rw [et2] at hb
    exact ⟨cos_in ha hb, sin_ge1 ha hb, sin_le2 ha hb⟩
  have cle : SP (cosF (sq2 (mkRat k1 4) (mkRat k2 4))) (cosF (sq1 (mkRat k1 4) (mkRat k2 4))) := ⟨cc1.sq (by decide), cc2.sq (by decide), by
    have := (ctr p.t1 Rat.le_refl ok.t.le).1
    exact Rat.le_trans this.1 this.2⟩
  refine ⟨_, _, _, _, fun x y hx hy => ?_, ctr⟩
  have q1 := mul1_pn cc1 cc2 hx
  have q2 := mul2_pn cc1 cc2 hx
  have q3 := mul1_pn cn1 cn2 hy
  have q4 := mul2_pn cn1 cn2 hy
  have q5 := mul1_pn cn1 cn2 hx
  have q6 := mul2_pn cn1 cn2 hx
  have q7 := mul1_pn cc1 cc2 hy
  have q8 := mul2_pn cc1 cc2 hy
  have d1 := q1.sub q4
  have d2 := q2.sub q3
  have d3 := q5.add q7
  have d4 := q6.add q8
  have le : ∀ {a b c : Rat}, a ≤ b → mul1 a b c c ≤ mul2 a b c c := fun {a b c} h => by have := mul_in (c := c) (x := a) Rat.le_refl h; exact Rat.le_trans this.1 this.2
  have lc := le (c := x) cle.le
  have lc' := le (c := y) cle.le
  have ls := le (c := x) (hS 0 []).2.le
  have ls' := le (c := y) (hS 0 []).2.le
  refine ⟨⟨ok, by rw [et1, et2]; exact hC, by rw [et1, et2]; exact fun lo h => (hS lo h).1, cle, (hS 0 []).2, hx.sq, hy.sq, (cc1.mul hx).sq (by decide) (by decide), (cc2.mul hx).sq (by decide) (by decide), (cn1.mul hy).sq (by decide) (by decide), (cn2.mul hy).sq (by decide) (by decide), (cn1.mul hx).sq (by decide) (by decide), (cn2.mul hx).sq (by decide) (by decide), (cc1.mul hy).sq (by decide) (by decide), (cc2.mul hy).sq (by decide) (by decide), ⟨d1.sq (by decide) (by decide), d2.sq (by decide) (by decide), by grind⟩, ⟨d3.sq (by decide) (by decide), d4.sq (by decide) (by decide), by grind⟩⟩, ?_, ?_, ?_, ?_⟩
  · unfold bX1; rw [ex1]; exact (d1.quarter (by omega)).sq (by decide) (by decide)
  · unfold bX2; rw [ex2]; exact (d2.quarter (by omega)).sq (by decide) (by decide)
  · unfold bY1; rw [ey1]; exact (d3.quarter (by omega)).sq (by decide) (by decide)
  · unfold bY2; rw [ey2]; exact (d4.quarter (by omega)).sq (by decide) (by decide)
/-- A frame's point: what turning it asks. -/
theorem frame_pt {k a b : Int} {x y : Rat} (hk : k.natAbs ≤ 80) (ha : a.natAbs ≤ 300) (hb : b.natAbs ≤ 300) (hx : P120 x) (hy : P120 y) : VT x y (mkRat k 32) ∧ SQ (trX x y (mkRat k 32)) ∧ SQ (trY x y (mkRat k 32)) ∧ SQ (mkRat a 32 + trX x y (mkRat k 32)) ∧ SQ (mkRat b 32 + trY x y (mkRat k 32)) := by
  have a1 : k.natAbs * k.natAbs ≤ 80 * 80 := Nat.mul_le_mul hk hk
  have tq : TQ (mkRat k 32) := TQ_mk (by decide) (by omega) (by decide)
  have ec : cosF (mkRat k 32 * mkRat k 32) = mkRat ((1024 : Nat) - (k.natAbs * k.natAbs : Nat)) (1024 + k.natAbs * k.natAbs) := by rw [sqr_mk]; exact cosF_mk (by decide)
  have es : sinF (mkRat k 32) = mkRat (64 * k) (1024 + k.natAbs * k.natAbs) := sinF_mk (k := k) (D := 32) (by decide)
  have b1 := two_le 32 k.natAbs
  obtain ⟨N, hN⟩ : ∃ N, 1024 + k.natAbs * k.natAbs = N := ⟨_, rfl⟩
  rw [hN] at ec es
  have hN0 : N ≠ 0 := by omega
  have hNB : N ≤ 7424 := by omega
  obtain ⟨c, hc⟩ : ∃ c : Int, ((1024 : Nat) : Int) - (k.natAbs * k.natAbs : Nat) = c := ⟨_, rfl⟩
  rw [hc] at ec
  have hcN : c.natAbs ≤ N := by omega
  obtain ⟨s, hs⟩ : ∃ s : Int, 64 * k = s := ⟨_, rfl⟩
  rw [hs] at es
  have hsN : s.natAbs ≤ N := by omega
  have cC : CN 7424 (cosF (mkRat k 32 * mkRat k 32)) := ⟨c, N, ec, hN0, hNB, hcN⟩
  have cS : CN 7424 (sinF (mkRat k 32)) := ⟨s, N, es, hN0, hNB, hsN⟩
  have comm : ∀ {q : Rat} {z : Rat}, CN 7424 q → P120 z → SQ (z * q) := fun hq hz => by rw [Rat.mul_comm]; exact (hq.mul hz).sq (by decide) (by decide)
  obtain ⟨xk, ex, hxk⟩ := id hx
  obtain ⟨yk, ey, hyk⟩ := id hy
  have m1 : (xk * c).natAbs ≤ 960 * N := by rw [Int.natAbs_mul]; exact Nat.mul_le_mul hxk hcN
  have m2 : (yk * s).natAbs ≤ 960 * N := by rw [Int.natAbs_mul]; exact Nat.mul_le_mul hyk hsN
  have m3 : (xk * s).natAbs ≤ 960 * N := by rw [Int.natAbs_mul]; exact Nat.mul_le_mul hxk hsN
  have m4 : (yk * c).natAbs ≤ 960 * N := by rw [Int.natAbs_mul]; exact Nat.mul_le_mul hyk hcN
  have e1 : trX x y (mkRat k 32) = mkRat (xk * c - yk * s) (120 * N) := by unfold trX; rw [ec, es, ex, ey, mk_prod, mk_prod, mk_sub (by omega)]
  have e2 : trY x y (mkRat k 32) = mkRat (xk * s + yk * c) (120 * N) := by unfold trY; rw [ec, es, ex, ey, mk_prod, mk_prod, mk_add (by omega)]
  have put : ∀ {a z : Int}, a.natAbs ≤ 300 → z.natAbs ≤ 1920 * N → SQ (mkRat a 32 + mkRat z (120 * N)) := fun {a z} ha hz => by
    rw [mk_scale (a := a) (D := 32) (E := 15 * N) (by decide) (by omega), mk_scale (a := z) (D := 120 * N) (E := 4) (by omega) (by decide), show 32 * (15 * N) = 480 * N by omega, show 120 * N * 4 = 480 * N by omega, mk_add (by omega)]
    refine mk_sq ?_ (by omega) (by omega)
    have h1 := Int.natAbs_add_le (a * (15 * N : Nat)) (z * (4 : Nat))
    rw [Int.natAbs_mul, Int.natAbs_mul, Int.natAbs_natCast, Int.natAbs_natCast] at h1
    have h2 := Nat.mul_le_mul_right (15 * N) ha
    omega
  refine ⟨⟨hx.sq, hy.sq, tq, cC.sq (by decide), cS.sq (by decide), comm cC hx, comm cS hy, comm cS hx, comm cC hy⟩, ?_, ?_, ?_, ?_⟩
  · rw [e1]; exact mk_sq (by omega) (by omega) (by omega)
  · rw [e2]; exact mk_sq (by omega) (by omega) (by omega)
  · rw [e1]; exact put ha (by omega)
  · rw [e2]; exact put hb (by omega)
end Vg.G3
namespace Vg.G3
open Go Lg Vg.Nm
set_option linter.unusedSimpArgs false
set_option linter.unusedVariables false
set_option maxRecDepth 10000
set_option maxHeartbeats 8000000
attribute [local congr] bind_congr1
attribute [local go_sem] see_Shape_r0 see_Shape_r1 see_Shape_r2 see_Shape_r3 see_Shape_r4 see_Shape_r5 see_Shape_r6 see_Shape_r7 see_Shape_r8 see_Shape_r8_d see_Shape_r9 see_Shape_r9_d see_Shape_r10 see_Shape_r11 see_Shape_f see_Shape_v

theorem q120 {k : Int} (h : k.natAbs ≤ 8) : P120 (mkRat k 4) := by
  refine ⟨k * (30 : Nat), mk_scale (D := 4) (E := 30) (by decide) (by decide), ?_⟩
  rw [Int.natAbs_mul, Int.natAbs_natCast]; omega
theorem Shape_spec {p : Po} {c1 c2 s1 s2 : Rat} (H : ∀ x y, P120 x → P120 y → PT p c1 c2 s1 s2 x y ∧ SQ (bX1 p c1 c2 s1 s2 x y) ∧ SQ (bX2 p c1 c2 s1 s2 x y) ∧ SQ (bY1 p c1 c2 s1 s2 x y) ∧ SQ (bY2 p c1 c2 s1 s2 x y)) (L : List (Int × Int)) (h5 : L.length ≤ 5) (h3 : 3 ≤ L.length) (hL : ∀ q ∈ L, q.1.natAbs ≤ 8 ∧ q.2.natAbs ≤ 8) :
    ∃ a b c d : Rat, SQ a ∧ SQ b ∧ SQ c ∧ SQ d ∧ (∀ q ∈ L, a ≤ bX1 p c1 c2 s1 s2 (mkRat q.1 4) (mkRat q.2 4) ∧ bX2 p c1 c2 s1 s2 (mkRat q.1 4) (mkRat q.2 4) ≤ c ∧ b ≤ bY1 p c1 c2 s1 s2 (mkRat q.1 4) (mkRat q.2 4) ∧ bY2 p c1 c2 s1 s2 (mkRat q.1 4) (mkRat q.2 4) ≤ d) ∧
      ∀ lo h, callVL vp lo n_see_Shape [.agg p.v, .list .s (L.map qpt)] h = some (.agg (bxv a b c d), h) := by
  obtain ⟨P, hP⟩ : ∃ P : VV → Prop, P = fun w : VV => ∃ a b c d : Rat, SQ a ∧ SQ b ∧ SQ c ∧ SQ d ∧ (∀ q ∈ L, a ≤ bX1 p c1 c2 s1 s2 (mkRat q.1 4) (mkRat q.2 4) ∧ bX2 p c1 c2 s1 s2 (mkRat q.1 4) (mkRat q.2 4) ≤ c ∧ b ≤ bY1 p c1 c2 s1 s2 (mkRat q.1 4) (mkRat q.2 4) ∧ bY2 p c1 c2 s1 s2 (mkRat q.1 4) (mkRat q.2 4) ≤ d) ∧ w = .agg (bxv a b c d) := ⟨_, rfl⟩
  obtain ⟨pv, hpv⟩ : ∃ pv, p.v = pv := ⟨_, rfl⟩
  have hpt : ∀ q ∈ L, ∀ lo h, callVL vp lo n_see_Point [.agg pv, .agg (qpt q)] h = some (.agg (bxv (bX1 p c1 c2 s1 s2 (mkRat q.1 4) (mkRat q.2 4)) (bY1 p c1 c2 s1 s2 (mkRat q.1 4) (mkRat q.2 4)) (bX2 p c1 c2 s1 s2 (mkRat q.1 4) (mkRat q.2 4)) (bY2 p c1 c2 s1 s2 (mkRat q.1 4) (mkRat q.2 4))), h) := fun q hq lo h => by
    have := Point_spec (H _ _ (q120 (hL q hq).1) (q120 (hL q hq).2)).1 lo h
    rw [hpv] at this; exact this
  obtain ⟨a1, a2, a3, a4, a5, a6, a7, a8, a9, a10, a11, a12, a13, a14, a15, a16, a17, a18, pe⟩ := p.vx
  rw [hpv] at pe
  subst pe
  rw [hpv]
  have qx : ∀ q : Int × Int, ∃ a b c d e f, qpt q = [.bool a, .str b, .str c, .bool d, .str e, .str f] := fun q => ⟨_, _, _, _, _, _, rfl⟩
  have hval : valL [.agg [.bool a1, .str a2, .str a3, .bool a4, .str a5, .str a6, .bool a7, .str a8, .str a9, .bool a10, .str a11, .str a12, .bool a13, .str a14, .str a15, .bool a16, .str a17, .str a18], .list .s (L.map qpt)] = true := rfl
  have key := call_val (p := vp) (f := n_see_Shape) (fn := see_Shape_v) (args := [.agg [.bool a1, .str a2, .str a3, .bool a4, .str a5, .str a6, .bool a7, .str a8, .str a9, .bool a10, .str a11, .str a12, .bool a13, .str a14, .str a15, .bool a16, .str a17, .str a18], .list .s (L.map qpt)]) (P := P) rfl rfl rfl rfl rfl ?_
  · obtain ⟨v, hv, hc⟩ := key; subst hP; obtain ⟨a, b, c, d, g1, g2, g3, g4, g5, rfl⟩ := hv; exact ⟨a, b, c, d, g1, g2, g3, g4, g5, hc⟩
  have hP1 : ∀ a b c d : Rat, SQ a → SQ b → SQ c → SQ d → (∀ q ∈ L, a ≤ bX1 p c1 c2 s1 s2 (mkRat q.1 4) (mkRat q.2 4) ∧ bX2 p c1 c2 s1 s2 (mkRat q.1 4) (mkRat q.2 4) ≤ c ∧ b ≤ bY1 p c1 c2 s1 s2 (mkRat q.1 4) (mkRat q.2 4) ∧ bY2 p c1 c2 s1 s2 (mkRat q.1 4) (mkRat q.2 4) ≤ d) → P (.agg (bxv a b c d)) := fun a b c d g1 g2 g3 g4 g5 => by subst hP; exact ⟨a, b, c, d, g1, g2, g3, g4, g5, rfl⟩
  clear hP hval
  simp -implicitDefEqProofs only [go_sem, ↓reduceIte, reduceCtorEq, Int.reduceLT, Int.reduceLE, Int.reduceToNat, Nat.reduceAdd, Nat.reduceMul, Nat.reduceLeDiff, Nat.reduceLT, Nat.reduceSub, Int.reduceNeg, Int.reduceEq, Int.reduceBEq, Int.reduceBNe, Nat.reduceEqDiff, List.length_map]
  rw [Sat_bind]
  refine loop_up (I := fun i env h' => ∃ out : List VV, h' = [.cells true [.bool a1, .str a2, .str a3, .bool a4, .str a5, .str a6, .bool a7, .str a8, .str a9, .bool a10, .str a11, .str a12, .bool a13, .str a14, .str a15, .bool a16, .str a17, .str a18], .cells true [.bool false, .str [], .str [], .bool false, .str [], .str [], .bool false, .str [], .str [], .bool false, .str [], .str []], .cells true out] ∧
    ((i = 0 ∧ out = [.bool false, .str [], .str [], .bool false, .str [], .str [], .bool false, .str [], .str [], .bool false, .str [], .str []]) ∨ (0 < i ∧ ∃ a b c d : Rat, SQ a ∧ SQ b ∧ SQ c ∧ SQ d ∧ (∀ q ∈ L.take i, a ≤ bX1 p c1 c2 s1 s2 (mkRat q.1 4) (mkRat q.2 4) ∧ bX2 p c1 c2 s1 s2 (mkRat q.1 4) (mkRat q.2 4) ≤ c ∧ b ≤ bY1 p c1 c2 s1 s2 (mkRat q.1 4) (mkRat q.2 4) ∧ bY2 p c1 c2 s1 s2 (mkRat q.1 4) (mkRat q.2 4) ≤ d) ∧ out = bxv a b c d)) ∧
    env = (VV.undef :: VV.undef :: (.ptr 0 0 : VV) :: VV.undef :: (.ptr 1 0 : VV) :: (.ptr 2 0 : VV) :: VV.undef :: VV.undef :: VV.undef :: (.list .s (L.map qpt) : VV) :: (.int .i64 ((L.length : Nat) : Int) : VV) :: (.int .i64 ((i : Nat) : Int) : VV) :: VV.undef :: VV.undef :: VV.undef :: VV.undef :: VV.undef :: VV.undef :: VV.undef :: VV.undef :: VV.undef :: VV.undef :: VV.undef :: VV.undef :: VV.undef :: VV.undef :: VV.undef :: VV.undef :: VV.undef :: VV.undef :: VV.undef :: VV.undef :: VV.undef :: VV.undef :: VV.undef :: VV.undef :: VV.undef :: VV.undef :: VV.undef :: VV.undef :: VV.undef :: VV.undef :: VV.undef :: VV.undef :: VV.undef :: VV.undef :: VV.undef :: VV.undef :: VV.undef :: VV.undef :: VV.undef :: VV.undef :: VV.undef :: VV.undef :: VV.undef :: VV.undef :: [])) L.length ?_ ?_ (Nat.zero_le _) ⟨_, rfl, .inl ⟨rfl, rfl⟩, by simp -implicitDefEqProofs only [go_sem, ↓reduceIte, reduceCtorEq, Int.reduceLT, Int.reduceLE, Int.reduceToNat, Nat.reduceAdd, Nat.reduceMul, Nat.reduceLeDiff, Nat.reduceLT, Nat.reduceSub, Int.reduceNeg, Int.reduceEq, Int.reduceBEq, Int.reduceBNe, Nat.reduceEqDiff]⟩
  · rintro i env h' hi ⟨out, rfl, hout, rfl⟩
    obtain ⟨q, hq⟩ := get_some hi
    have hqm : q ∈ L := List.mem_of_getElem? hq
    have hi' : (i : Int) < (L.length : Int) := by omega
    have hw := wrap_succ (i := i) (by omega)
    have hrow : (L.map qpt)[i]? = some (qpt q) := by rw [List.getElem?_map, hq]; rfl
    have hp := hpt q hqm
    obtain ⟨_, k1, k2, k3, k4⟩ := H _ _ (q120 (hL q hqm).1) (q120 (hL q hqm).2)
    have htake : ∀ r, r ∈ L.take (i + 1) → r ∈ L.take i ∨ r = q := fun r hr => by
      rw [List.take_add_one, hq] at hr
      simpa using hr
    obtain ⟨b1, b2, b3, b4, b5, b6, eq⟩ := qx q
    rw [eq] at hrow hp
    have hX := htake
    generalize hA1 : bX1 p c1 c2 s1 s2 (mkRat q.1 4) (mkRat q.2 4) = A1 at *
    generalize hA2 : bX2 p c1 c2 s1 s2 (mkRat q.1 4) (mkRat q.2 4) = A2 at *
    generalize hB1 : bY1 p c1 c2 s1 s2 (mkRat q.1 4) (mkRat q.2 4) = B1 at *
    generalize hB2 : bY2 p c1 c2 s1 s2 (mkRat q.1 4) (mkRat q.2 4) = B2 at *
    rcases hout with ⟨h0, hz⟩ | ⟨h0, a, b, c, d, g1, g2, g3, g4, g5, hz⟩
    · subst hz
      subst h0
      have c0 : ((0 : Nat) : Int) = 0 := rfl
      rw [c0] at hi' hw ⊢
      have next : ∀ out, out = bxv A1 B1 A2 B2 → (0 + 1 = 0 ∧ out = [.bool false, .str [], .str [], .bool false, .str [], .str [], .bool false, .str [], .str [], .bool false, .str [], .str []]) ∨ (0 < 0 + 1 ∧ ∃ a b c d : Rat, SQ a ∧ SQ b ∧ SQ c ∧ SQ d ∧ (∀ q ∈ L.take (0 + 1), a ≤ bX1 p c1 c2 s1 s2 (mkRat q.1 4) (mkRat q.2 4) ∧ bX2 p c1 c2 s1 s2 (mkRat q.1 4) (mkRat q.2 4) ≤ c ∧ b ≤ bY1 p c1 c2 s1 s2 (mkRat q.1 4) (mkRat q.2 4) ∧ bY2 p c1 c2 s1 s2 (mkRat q.1 4) (mkRat q.2 4) ≤ d) ∧ out = bxv a b c d) := fun out ho =>
        .inr ⟨Nat.succ_pos _, A1, B1, A2, B2, k1, k3, k2, k4, fun r hr => by
          rcases htake r hr with hr | rfl
          · simp at hr
          · rw [hA1, hA2, hB1, hB2]; exact ⟨Rat.le_refl, Rat.le_refl, Rat.le_refl, Rat.le_refl⟩, ho⟩
      clear hA1 hA2 hB1 hB2 hX htake hpt H hP1
      unfold bxv ptv at hp
      obtain ⟨z1, z2, z3, e1⟩ := rvx A1
      obtain ⟨z4, z5, z6, e2⟩ := rvx B1
      obtain ⟨z7, z8, z9, e3⟩ := rvx A2
      obtain ⟨z10, z11, z12, e4⟩ := rvx B2
      have hbx : bxv A1 B1 A2 B2 = [.bool z1, .str z2, .str z3, .bool z4, .str z5, .str z6, .bool z7, .str z8, .str z9, .bool z10, .str z11, .str z12] := by unfold bxv ptv; rw [e1, e2, e3, e4]; rfl
      have nx := next _ hbx.symm
      simp only [e1, e2, e3, e4, List.cons_append, List.nil_append] at hp
      clear e1 e2 e3 e4
      simp -implicitDefEqProofs only [see_Shape_b0, go_sem, ↓reduceIte, reduceCtorEq, Int.reduceLT, Int.reduceLE, Int.reduceToNat, Nat.reduceAdd, Nat.reduceMul, Nat.reduceLeDiff, Nat.reduceLT, Nat.reduceSub, Int.reduceNeg, Int.reduceEq, Int.reduceBEq, Int.reduceBNe, Nat.reduceEqDiff, hi, hi', hw, hrow, hp]
      have ny := nx.resolve_left (fun h => absurd h.1 (by omega))
      have nz := ny.2
      first | exact ⟨_, rfl, nx⟩ | exact ⟨_, rfl, ny⟩ | exact ⟨_, rfl, nz⟩ | exact ⟨_, nz⟩ | exact ⟨_, ny⟩ | exact ny | exact nz
    · subst hz
      have hi0 : ¬ (i : Int) = 0 := by omega
      have m1 := MinQ_spec g1 k1
      have m2 := MinQ_spec g2 k3
      have m3 := MaxQ_spec g3 k2
      have m4 := MaxQ_spec g4 k4
      have next : ∀ out, out = bxv (minQ a A1) (minQ b B1) (maxQ c A2) (maxQ d B2) → (i + 1 = 0 ∧ out = [.bool false, .str [], .str [], .bool false, .str [], .str [], .bool false, .str [], .str [], .bool false, .str [], .str []]) ∨ (0 < i + 1 ∧ ∃ a b c d : Rat, SQ a ∧ SQ b ∧ SQ c ∧ SQ d ∧ (∀ q ∈ L.take (i + 1), a ≤ bX1 p c1 c2 s1 s2 (mkRat q.1 4) (mkRat q.2 4) ∧ bX2 p c1 c2 s1 s2 (mkRat q.1 4) (mkRat q.2 4) ≤ c ∧ b ≤ bY1 p c1 c2 s1 s2 (mkRat q.1 4) (mkRat q.2 4) ∧ bY2 p c1 c2 s1 s2 (mkRat q.1 4) (mkRat q.2 4) ≤ d) ∧ out = bxv a b c d) := fun out ho =>
        .inr ⟨Nat.succ_pos _, _, _, _, _, minQ_sq g1 k1, minQ_sq g2 k3, maxQ_sq g3 k2, maxQ_sq g4 k4, fun r hr => by
          rcases htake r hr with hr | rfl
          · have := g5 r hr
            exact ⟨Rat.le_trans min_le1 this.1, Rat.le_trans this.2.1 le_max1, Rat.le_trans min_le1 this.2.2.1, Rat.le_trans this.2.2.2 le_max1⟩
          · rw [hA1, hA2, hB1, hB2]; exact ⟨min_le2, le_max2, min_le2, le_max2⟩, ho⟩
      clear hA1 hA2 hB1 hB2 hX htake hpt H hP1 g5
      generalize minQ a A1 = N1 at *
      generalize minQ b B1 = N2 at *
      generalize maxQ c A2 = N3 at *
      generalize maxQ d B2 = N4 at *
      unfold bxv ptv at hp
      have hbo : bxv a b c d = rv a ++ rv b ++ (rv c ++ rv d) := rfl
      rw [hbo]
      obtain ⟨z1, z2, z3, e1⟩ := rvx A1
      obtain ⟨z4, z5, z6, e2⟩ := rvx B1
      obtain ⟨z7, z8, z9, e3⟩ := rvx A2
      obtain ⟨z10, z11, z12, e4⟩ := rvx B2
      obtain ⟨y1, y2, y3, e5⟩ := rvx a
      obtain ⟨y4, y5, y6, e6⟩ := rvx b
      obtain ⟨y7, y8, y9, e7⟩ := rvx c
      obtain ⟨y10, y11, y12, e8⟩ := rvx d
      obtain ⟨w1, w2, w3, e9⟩ := rvx N1
      obtain ⟨w4, w5, w6, e10⟩ := rvx N2
      obtain ⟨w7, w8, w9, e11⟩ := rvx N3
      obtain ⟨w10, w11, w12, e12⟩ := rvx N4
      have hbx : bxv N1 N2 N3 N4 = [.bool w1, .str w2, .str w3, .bool w4, .str w5, .str w6, .bool w7, .str w8, .str w9, .bool w10, .str w11, .str w12] := by unfold bxv ptv; rw [e9, e10, e11, e12]; rfl
      have nx := next _ hbx.symm
      clear next hbx
      simp only [e1, e2, e3, e4, e5, e6, e7, e8, e9, e10, e11, e12, List.cons_append, List.nil_append] at hp m1 m2 m3 m4 ⊢
      clear e1 e2 e3 e4 e5 e6 e7 e8 e9 e10 e11 e12
      simp -implicitDefEqProofs only [see_Shape_b0, go_sem, ↓reduceIte, reduceCtorEq, Int.reduceLT, Int.reduceLE, Int.reduceToNat, Nat.reduceAdd, Nat.reduceMul, Nat.reduceLeDiff, Nat.reduceLT, Nat.reduceSub, Int.reduceNeg, Int.reduceEq, Int.reduceBEq, Int.reduceBNe, Nat.reduceEqDiff, hi, hi', hw, hrow, hp, hi0, m1, m2, m3, m4]
      have ny := nx.resolve_left (fun h => absurd h.1 (by omega))
      have nz := ny.2
      first | exact ⟨_, rfl, nx⟩ | exact ⟨_, rfl, ny⟩ | exact ⟨_, rfl, nz⟩ | exact ⟨_, nz⟩ | exact ⟨_, ny⟩ | exact ny | exact nz
  · rintro env h' ⟨out, rfl, hout, rfl⟩
    rcases hout with ⟨h0, hz⟩ | ⟨h0, a, b, c, d, g1, g2, g3, g4, g5, hz⟩
    · omega
    · subst hz
      rw [List.take_length] at g5
      have hf := hP1 a b c d g1 g2 g3 g4 g5
      unfold bxv ptv at hf ⊢
      obtain ⟨y1, y2, y3, e5⟩ := rvx a
      obtain ⟨y4, y5, y6, e6⟩ := rvx b
      obtain ⟨y7, y8, y9, e7⟩ := rvx c
      obtain ⟨y10, y11, y12, e8⟩ := rvx d
      simp only [e5, e6, e7, e8, List.cons_append, List.nil_append] at hf ⊢
      clear e5 e6 e7 e8
      simp -implicitDefEqProofs only [see_Shape_b0, go_sem, ↓reduceIte, reduceCtorEq, Int.reduceLT, Int.reduceLE, Int.reduceToNat, Nat.reduceAdd, Nat.reduceMul, Nat.reduceLeDiff, Nat.reduceLT, Nat.reduceSub, Int.reduceNeg, Int.reduceEq, Int.reduceBEq, Int.reduceBNe, Nat.reduceEqDiff, Int.lt_irrefl]
      exact hf
end Vg.G3
namespace Vg.G3
open Go Lg Vg.Nm
set_option linter.unusedSimpArgs false
set_option linter.unusedVariables false
set_option maxRecDepth 10000
set_option maxHeartbeats 8000000
attribute [local congr] bind_congr1
attribute [local go_sem] gantkeep4_SeePoint_r0 gantkeep4_SeePoint_r1 gantkeep4_SeePoint_r2 gantkeep4_SeePoint_r3 gantkeep4_SeePoint_r4 gantkeep4_SeePoint_r5 gantkeep4_SeePoint_r5_d gantkeep4_SeePoint_r6 gantkeep4_SeePoint_r7 gantkeep4_SeePoint_r8 gantkeep4_SeePoint_r9 gantkeep4_SeePoint_r10 gantkeep4_SeePoint_r10_d gantkeep4_SeePoint_r11 gantkeep4_SeePoint_r12 gantkeep4_SeePoint_r13 gantkeep4_SeePoint_f gantkeep4_SeePoint_v

/-- The law SeePoint. -/
theorem SeePoint_law (a l m sh : List Int) (lo : Nat) (h : VHeap) : callVL vp lo n_gantkeep4_SeePoint [.list .s (a.map fun x => [.int .i64 x]), .list .s (l.map fun x => [.int .i64 x]), .list .s (m.map fun x => [.int .i64 x]), .list .s (sh.map fun x => [.int .i64 x])] h = some (.bool true, h) := by
  refine call_valE (fn := gantkeep4_SeePoint_v) rfl rfl rfl rfl rfl ?_ lo h
  obtain ⟨P, hP⟩ : ∃ P : VV → Prop, P = fun w : VV => w = .bool true := ⟨_, rfl⟩
  have hP1 : P (.bool true) := by subst hP; rfl
  have hP2 : (fun r : VV × VHeap => r.1 = .bool true) = fun r => P r.1 := by subst hP; rfl
  rw [hP2]
  clear hP hP2
  obtain ⟨p, gp, hp⟩ := Pose_spec a
  obtain ⟨x1, x2, y1, y2, t1, t2, pd, bx1, bx2, by1, by2, bt1, bt2⟩ := gp.pd
  obtain ⟨n1, n2, n3, n10, n18, n20, n28, n30, n38, hW, s1, s2, s3, hin⟩ := Within_in pd l
  have cx := btw_bnd pd.x n10 n18
  have cy := btw_bnd pd.y n20 n28
  have ct := btw_bnd pd.t n30 n38
  have px := pd.x
  have py := pd.y
  have pt := pd.t
  obtain ⟨x, y, hx, hy, hV⟩ := Vec_spec m
  obtain ⟨L, l5, l3, hL, hPo⟩ := Poly_spec sh
  obtain ⟨c1, c2, u1, u2, H, ctr⟩ := pose_pt pd bx1 bx2 by1 by2 bt1 bt2
  obtain ⟨A, B, C, D, gA, gB, gC, gD, hbox, hSh⟩ := Shape_spec H L l5 l3 hL
  generalize btw x1 x2 n1 = fx at *
  generalize btw y1 y2 n2 = fy at *
  generalize btw t1 t2 n3 = ft at *
  rw [show 8 * 4 = 32 from rfl] at *
  have hct := ctr (mkRat ft 32) hin.2.1 hin.2.2
  have F : ∀ {z w : Rat}, P120 z → P120 w → _ := fun {z w} hz hw => frame_pt (k := ft) (a := fx) (b := fy) (x := z) (y := w) (by omega) (by omega) (by omega) hz hw
  have hS := seen_spec
  -- the point
  obtain ⟨v1, v2, v3, v4, v5⟩ := F hx hy
  obtain ⟨q1, q2, q3, q4, q5⟩ := H x y hx hy
  have hPt := Point_spec q1
  have hPu := Put_spec v1 s1 s2 v2 v3
  have inp := point_in (x := x) (y := y) hin hct.1 hct.2
  have hI := inBox_spec q2 q4 q3 q5 v4 v5 inp.1.1 inp.1.2 inp.2.1 inp.2.2
  -- the corners
  have hC : ∀ q ∈ L, (∃ w z : Rat, (∀ lo h, callVL vp lo n_frame_Put [.agg (frv (rv (mkRat fx 32)) (rv (mkRat fy 32)) (rv (mkRat ft 32))), .agg (qpt q)] h = some (.agg (ptv w z), h)) ∧ ∀ lo h, callVL vp lo n_gantkeep4_inBox [.agg (bxv A B C D), .agg (ptv w z)] h = some (.bool true, h)) := fun q hq => by
    have hl := hL q hq
    obtain ⟨v1, v2, v3, v4, v5⟩ := F (q120 hl.1) (q120 hl.2)
    have hb := hbox q hq
    have inp := point_in (x := mkRat q.1 4) (y := mkRat q.2 4) hin hct.1 hct.2
    exact ⟨_, _, Put_spec v1 s1 s2 v2 v3, inBox_spec gA gB gC gD v4 v5 (Rat.le_trans hb.1 inp.1.1) (Rat.le_trans inp.1.2 hb.2.1) (Rat.le_trans hb.2.2.1 inp.2.1) (Rat.le_trans inp.2.2 hb.2.2.2)⟩
  clear F H hbox hin hct ctr pd gp inp q1 v1 v2 v3 v4 v5 q2 q3 q4 q5 s1 s2 s3 cx cy ct gA gB gC gD px py pt
  generalize bX1 p c1 c2 u1 u2 x y = E1 at *
  generalize bX2 p c1 c2 u1 u2 x y = E2 at *
  generalize bY1 p c1 c2 u1 u2 x y = E3 at *
  generalize bY2 p c1 c2 u1 u2 x y = E4 at *
  generalize mkRat fx 32 + trX x y (mkRat ft 32) = G1 at *
  generalize mkRat fy 32 + trY x y (mkRat ft 32) = G2 at *
  obtain ⟨fv, hfv⟩ : ∃ fv, frv (rv (mkRat fx 32)) (rv (mkRat fy 32)) (rv (mkRat ft 32)) = fv := ⟨_, rfl⟩
  obtain ⟨bv, hbv⟩ : ∃ bv, bxv A B C D = bv := ⟨_, rfl⟩
  rw [hfv] at hW hPu hC
  rw [hbv] at hSh hC
  obtain ⟨fa1, fa2, fa3, fa4, fa5, fa6, fa7, fa8, fa9, ef⟩ := @frv_x (mkRat fx 32) (mkRat fy 32) (mkRat ft 32)
  rw [hfv] at ef
  obtain ⟨a1, a2, a3, a4, a5, a6, a7, a8, a9, a10, a11, a12, a13, a14, a15, a16, a17, a18, pe⟩ := p.vx
  have bx : ∃ b1 n1 d1 b2 n2 d2 b3 n3 d3 b4 n4 d4, bv = [.bool b1, .str n1, .str d1, .bool b2, .str n2, .str d2, .bool b3, .str n3, .str d3, .bool b4, .str n4, .str d4] := by rw [← hbv]; exact ⟨_, _, _, _, _, _, _, _, _, _, _, _, rfl⟩
  obtain ⟨g1, g2, g3, g4, g5, g6, g7, g8, g9, g10, g11, g12, be⟩ := bx
  clear hfv hbv
  subst ef be
  rw [pe] at hp hW hPt hSh
  have qx : ∀ q : Int × Int, ∃ a b c d e f, qpt q = [.bool a, .str b, .str c, .bool d, .str e, .str f] := fun q => ⟨_, _, _, _, _, _, rfl⟩
  unfold ptv at hV hPu hI hPt
  unfold bxv ptv at hPt hI
  obtain ⟨b1', x1', y1', h1'⟩ := rvx x
  obtain ⟨b2', x2', y2', h2'⟩ := rvx y
  obtain ⟨b3', x3', y3', h3'⟩ := rvx E1
  obtain ⟨b4', x4', y4', h4'⟩ := rvx E2
  obtain ⟨b5', x5', y5', h5'⟩ := rvx E3
  obtain ⟨b6', x6', y6', h6'⟩ := rvx E4
  obtain ⟨b7', x7', y7', h7'⟩ := rvx G1
  obtain ⟨b8', x8', y8', h8'⟩ := rvx G2
  simp only [h1', h2', h3', h4', h5', h6', h7', h8', List.cons_append, List.nil_append] at hV hPu hI hPt
  clear h1' h2' h3' h4' h5' h6' h7' h8' pe
  simp -implicitDefEqProofs only [go_sem, ↓reduceIte, reduceCtorEq, Int.reduceLT, Int.reduceLE, Int.reduceToNat, Nat.reduceAdd, Nat.reduceMul, Nat.reduceLeDiff, Nat.reduceLT, Nat.reduceSub, Int.reduceNeg, Int.reduceEq, Int.reduceBEq, Int.reduceBNe, Nat.reduceEqDiff, hp, hW, hV, hPo, hSh, hS, hPt, hPu, hI, List.length_map]
  rw [Sat_bind]
  refine loop_up (I := fun i env h' => h' = [.cells true [.bool a1, .str a2, .str a3, .bool a4, .str a5, .str a6, .bool a7, .str a8, .str a9, .bool a10, .str a11, .str a12, .bool a13, .str a14, .str a15, .bool a16, .str a17, .str a18], .cells true [.bool fa1, .str fa2, .str fa3, .bool fa4, .str fa5, .str fa6, .bool false, .bool fa7, .str fa8, .str fa9], .cells true [.bool b1', .str x1', .str y1', .bool b2', .str x2', .str y2'], .cells true [.bool g1, .str g2, .str g3, .bool g4, .str g5, .str g6, .bool g7, .str g8, .str g9, .bool g10, .str g11, .str g12]] ∧
    env = (VV.undef :: VV.undef :: VV.undef :: VV.undef :: VV.undef :: VV.undef :: VV.undef :: VV.undef :: VV.undef :: VV.undef :: (.ptr 1 0 : VV) :: VV.undef :: VV.undef :: (.ptr 3 0 : VV) :: VV.undef :: VV.undef :: VV.undef :: VV.undef :: VV.undef :: VV.undef :: VV.undef :: VV.undef :: VV.undef :: VV.undef :: VV.undef :: VV.undef :: VV.undef :: VV.undef :: VV.undef :: VV.undef :: VV.undef :: VV.undef :: VV.undef :: VV.undef :: VV.undef :: VV.undef :: VV.undef :: VV.undef :: VV.undef :: VV.undef :: (.list .s (L.map qpt) : VV) :: (.int .i64 ((L.length : Nat) : Int) : VV) :: (.int .i64 ((i : Nat) : Int) : VV) :: VV.undef :: VV.undef :: VV.undef :: VV.undef :: VV.undef :: VV.undef :: VV.undef :: VV.undef :: VV.undef :: VV.undef :: [])) L.length ?_ ?_ (Nat.zero_le _) ⟨rfl, by simp -implicitDefEqProofs only [go_sem, ↓reduceIte, reduceCtorEq, Int.reduceLT, Int.reduceLE, Int.reduceToNat, Nat.reduceAdd, Nat.reduceMul, Nat.reduceLeDiff, Nat.reduceLT, Nat.reduceSub, Int.reduceNeg, Int.reduceEq, Int.reduceBEq, Int.reduceBNe, Nat.reduceEqDiff]⟩
  · rintro i env h' hi ⟨rfl, rfl⟩
    obtain ⟨q, hq⟩ := get_some hi
    have hqm : q ∈ L := List.mem_of_getElem? hq
    have hi' : (i : Int) < (L.length : Int) := by omega
    have hw := wrap_succ (i := i) (by omega)
    have hrow : (L.map qpt)[i]? = some (qpt q) := by rw [List.getElem?_map, hq]; rfl
    obtain ⟨w, z, k1, k2⟩ := hC q hqm
    obtain ⟨r1, r2, r3, r4, r5, r6, eq⟩ := qx q
    rw [eq] at hrow k1
    unfold ptv at k1 k2
    obtain ⟨b9', x9', y9', h9'⟩ := rvx w
    obtain ⟨b10', x10', y10', h10'⟩ := rvx z
    simp only [h9', h10', List.cons_append, List.nil_append] at k1 k2
    clear h9' h10' hC qx
    simp -implicitDefEqProofs only [gantkeep4_SeePoint_b0, go_sem, ↓reduceIte, reduceCtorEq, Int.reduceLT, Int.reduceLE, Int.reduceToNat, Nat.reduceAdd, Nat.reduceMul, Nat.reduceLeDiff, Nat.reduceLT, Nat.reduceSub, Int.reduceNeg, Int.reduceEq, Int.reduceBEq, Int.reduceBNe, Nat.reduceEqDiff, hi, hi', hw, hrow, k1, k2]
  · rintro env h' ⟨rfl, rfl⟩
    simp -implicitDefEqProofs only [gantkeep4_SeePoint_b0, go_sem, ↓reduceIte, reduceCtorEq, Int.reduceLT, Int.reduceLE, Int.reduceToNat, Nat.reduceAdd, Nat.reduceMul, Nat.reduceLeDiff, Nat.reduceLT, Nat.reduceSub, Int.reduceNeg, Int.reduceEq, Int.reduceBEq, Int.reduceBNe, Nat.reduceEqDiff, Int.lt_irrefl]
    exact hP1
end Vg.G3
