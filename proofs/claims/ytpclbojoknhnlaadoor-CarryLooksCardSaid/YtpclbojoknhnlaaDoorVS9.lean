import Derived.Test.YtpclbojoknhnlaaDoorVS6
namespace Vg.G3
open Go Lg Vg.Nm
set_option linter.unusedSimpArgs false
set_option linter.unusedVariables false
set_option maxRecDepth 10000
set_option maxHeartbeats 4000000

/-! Plain: sines and cosines between bounds. -/
end Vg.G3
namespace Vg.G3
open Go Lg Vg.Nm
set_option linter.unusedSimpArgs false
set_option linter.unusedVariables false
set_option maxRecDepth 10000
set_option maxHeartbeats 4000000

/-! The sizes of the numbers. -/
/-- A fraction of size at most 1. -/
def CN (B : Nat) (c : Rat) : Prop := ∃ (n : Int) (N : Nat), c = mkRat n N ∧ N ≠ 0 ∧ N ≤ B ∧ n.natAbs ≤ N
theorem CN.sq {B : Nat} {c : Rat} (h : CN B c) (hB : B < 268435456) : SQ c := by
  obtain ⟨n, N, rfl, h0, h1, h2⟩ := h
  exact mk_sq (by omega) h0 (by omega)
theorem CN.min {B : Nat} {a b : Rat} (h : CN B a) (k : CN B b) : CN B (minQ a b) := by unfold minQ; split <;> assumption
theorem CN.max {B : Nat} {a b : Rat} (h : CN B a) (k : CN B b) : CN B (maxQ a b) := by unfold maxQ; split <;> assumption
theorem one_mk : (1 : Rat) = mkRat 1 1 := by decide
theorem CN.one {B : Nat} (h : 1 ≤ B) : CN B 1 := ⟨1, 1, one_mk, by decide, h, by decide⟩
/-- A product of a fraction and a coordinate. -/
def PN (B M : Nat) (q : Rat) : Prop := ∃ (n : Int) (N : Nat), q = mkRat n (120 * N) ∧ N ≠ 0 ∧ N ≤ B ∧ n.natAbs ≤ M * N
theorem PN.sq {B M : Nat} {q : Rat} (h : PN B M q) (hB : M * B < 268435456) (hB2 : 120 * B < 268435456) : SQ q := by
  obtain ⟨n, N, rfl, h0, h1, h2⟩ := h
  have := Nat.mul_le_mul_left M h1
  exact mk_sq (by omega) (by omega) (by omega)
theorem PN.min {B M : Nat} {a b : Rat} (h : PN B M a) (k : PN B M b) : PN B M (minQ a b) := by unfold minQ; split <;> assumption
theorem PN.max {B M : Nat} {a b : Rat} (h : PN B M a) (k : PN B M b) : PN B M (maxQ a b) := by unfold maxQ; split <;> assumption
theorem CN.mul {B : Nat} {c x : Rat} (h : CN B c) (k : P120 x) : PN B 960 (c * x) := by
  obtain ⟨n, N, rfl, h0, h1, h2⟩ := h
  obtain ⟨a, rfl, ha⟩ := k
  refine ⟨n * a, N, by rw [mk_prod, Nat.mul_comm N], h0, h1, ?_⟩
  rw [Int.natAbs_mul]
  have := Nat.mul_le_mul h2 ha
  rwa [Nat.mul_comm N] at this
theorem common {n m : Int} {N M : Nat} (hN : N ≠ 0) (hM : M ≠ 0) : mkRat n (120 * N) = mkRat (n * M) (120 * (N * M)) ∧ mkRat m (120 * M) = mkRat (m * N) (120 * (N * M)) :=
  ⟨by rw [mk_scale (E := M) (by omega) hM, Nat.mul_assoc], by rw [mk_scale (E := N) (by omega) hN, Nat.mul_assoc, Nat.mul_comm M N]⟩
theorem PN.add {B M : Nat} {a b : Rat} (h : PN B M a) (k : PN B M b) : PN (B * B) (2 * M) (a + b) := by
  obtain ⟨n, N, rfl, h0, h1, h2⟩ := h
  obtain ⟨m, K, rfl, k0, k1, k2⟩ := k
  obtain ⟨e1, e2⟩ := common (n := n) (m := m) h0 k0
  have hNK := Nat.mul_ne_zero h0 k0
  refine ⟨n * K + m * N, N * K, by rw [e1, e2, mk_add (by omega)], hNK, Nat.mul_le_mul h1 k1, ?_⟩
  have a1 := Nat.mul_le_mul_right K h2
  have a2 := Nat.mul_le_mul_right N k2
  have a3 := Int.natAbs_add_le (n * K) (m * N)
  rw [Int.natAbs_mul, Int.natAbs_mul, Int.natAbs_natCast, Int.natAbs_natCast] at a3
  rw [Nat.mul_assoc] at a1 a2
  rw [Nat.mul_comm K N] at a2
  rw [Nat.mul_assoc]
  omega
theorem PN.neg {B M : Nat} {a : Rat} (h : PN B M a) : PN B M (-a) := by
  obtain ⟨n, N, rfl, h0, h1, h2⟩ := h
  exact ⟨-n, N, neg_mkRat _ _, h0, h1, by rw [Int.natAbs_neg]; exact h2⟩
theorem PN.sub {B M : Nat} {a b : Rat} (h : PN B M a) (k : PN B M b) : PN (B * B) (2 * M) (a - b) := by
  rw [Rat.sub_eq_add_neg]; exact h.add k.neg
end Vg.G3
namespace Vg.G3
open Go Lg Vg.Nm
set_option linter.unusedSimpArgs false
set_option linter.unusedVariables false
set_option maxRecDepth 10000
set_option maxHeartbeats 4000000

theorem P120.sq {x : Rat} (h : P120 x) : SQ x := by
  obtain ⟨k, rfl, hk⟩ := h
  exact mk_sq (by omega) (by decide) (by decide)
end Vg.G3
