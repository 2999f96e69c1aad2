import Derived.Test.YtpoofafddbcnpaaVH5
namespace Vg.G3
open Go Lg
set_option linter.unusedSimpArgs false
set_option linter.unusedVariables false
set_option maxRecDepth 10000
set_option maxHeartbeats 4000000
attribute [local congr] bind_congr1
attribute [local go_sem] act_Form_r0 act_Form_r1 act_Form_r1_d act_Form_r2 act_Form_r3 act_Form_r4 act_Form_r5 act_Form_r6 act_Form_r7 act_Form_r8 act_Form_r9 act_Form_r10 act_Form_r11 act_Form_r12 act_Form_r13 act_Form_r14 act_Form_f act_Form_v

def formF (s : Stp) : Bool :=
  if s.p < -1 ∨ s.s < -1 ∨ s.a < 0 then false
  else if s.k = 0 then decide ((0 ≤ s.p ↔ ¬ 0 ≤ s.s) ∧ s.t = 0)
  else if s.k = 1 ∨ s.k = 3 then decide (0 ≤ s.p ∧ ¬ 0 ≤ s.s ∧ s.t = 0)
  else if s.k = 2 then decide (0 ≤ s.s ∧ ¬ 0 ≤ s.p ∧ s.t = 0)
  else if s.k = 4 then decide (¬ 0 ≤ s.p ∧ ¬ 0 ≤ s.s ∧ 1 ≤ s.t ∧ s.t ≤ 2000)
  else false
theorem Form_spec (s : Stp) (lo : Nat) (h : VHeap) : callVL vp lo n_act_Form [.agg (fS s)] h = some (.bool (formF s), h) := by
  refine call_valE (fn := act_Form_v) rfl rfl rfl rfl rfl ?_ lo h
  obtain ⟨k, a, p, q, t⟩ := s
  unfold formF
  simp only
  by_cases h1 : p < -1
  · rw [if_pos (.inl h1)]
    by_cases b1 : 0 ≤ p <;> by_cases b2 : 0 ≤ q <;> by_cases b3 : t = 0 <;> simp -implicitDefEqProofs only [go_sem, ↓reduceIte, reduceCtorEq, Int.reduceLT, Int.reduceLE, Int.reduceToNat, Nat.reduceAdd, Nat.reduceMul, Nat.reduceLeDiff, Nat.reduceLT, Nat.reduceSub, Int.reduceNeg, Int.reduceEq, Int.reduceBEq, Int.reduceBNe, Nat.reduceEqDiff, fS, h1, b1, b2, b3]
  by_cases h2 : q < -1
  · rw [if_pos (.inr (.inl h2))]
    by_cases b1 : 0 ≤ p <;> by_cases b2 : 0 ≤ q <;> by_cases b3 : t = 0 <;> simp -implicitDefEqProofs only [go_sem, ↓reduceIte, reduceCtorEq, Int.reduceLT, Int.reduceLE, Int.reduceToNat, Nat.reduceAdd, Nat.reduceMul, Nat.reduceLeDiff, Nat.reduceLT, Nat.reduceSub, Int.reduceNeg, Int.reduceEq, Int.reduceBEq, Int.reduceBNe, Nat.reduceEqDiff, fS, h1, h2, b1, b2, b3]
  by_cases h3 : a < 0
  · rw [if_pos (.inr (.inr h3))]
    by_cases b1 : 0 ≤ p <;> by_cases b2 : 0 ≤ q <;> by_cases b3 : t = 0 <;> simp -implicitDefEqProofs only [go_sem, ↓reduceIte, reduceCtorEq, Int.reduceLT, Int.reduceLE, Int.reduceToNat, Nat.reduceAdd, Nat.reduceMul, Nat.reduceLeDiff, Nat.reduceLT, Nat.reduceSub, Int.reduceNeg, Int.reduceEq, Int.reduceBEq, Int.reduceBNe, Nat.reduceEqDiff, fS, h1, h2, h3, b1, b2, b3]
  rw [if_neg (by omega)]
  by_cases k0 : k = 0
  · subst k0
    by_cases b1 : 0 ≤ p <;> by_cases b2 : 0 ≤ q <;> by_cases b3 : t = 0 <;> simp -implicitDefEqProofs only [go_sem, ↓reduceIte, reduceCtorEq, Int.reduceLT, Int.reduceLE, Int.reduceToNat, Nat.reduceAdd, Nat.reduceMul, Nat.reduceLeDiff, Nat.reduceLT, Nat.reduceSub, Int.reduceNeg, Int.reduceEq, Int.reduceBEq, Int.reduceBNe, Nat.reduceEqDiff, fS, h1, h2, h3, b1, b2, b3, iff_true, iff_false, true_iff, false_iff, not_true_eq_false]
  by_cases k1 : k = 1
  · subst k1
    by_cases b1 : 0 ≤ p <;> by_cases b2 : 0 ≤ q <;> by_cases b3 : t = 0 <;> simp -implicitDefEqProofs only [go_sem, ↓reduceIte, reduceCtorEq, Int.reduceLT, Int.reduceLE, Int.reduceToNat, Nat.reduceAdd, Nat.reduceMul, Nat.reduceLeDiff, Nat.reduceLT, Nat.reduceSub, Int.reduceNeg, Int.reduceEq, Int.reduceBEq, Int.reduceBNe, Nat.reduceEqDiff, fS, h1, h2, h3, b1, b2, b3]
  by_cases k3 : k = 3
  · subst k3
    by_cases b1 : 0 ≤ p <;> by_cases b2 : 0 ≤ q <;> by_cases b3 : t = 0 <;> simp -implicitDefEqProofs only [go_sem, ↓reduceIte, reduceCtorEq, Int.reduceLT, Int.reduceLE, Int.reduceToNat, Nat.reduceAdd, Nat.reduceMul, Nat.reduceLeDiff, Nat.reduceLT, Nat.reduceSub, Int.reduceNeg, Int.reduceEq, Int.reduceBEq, Int.reduceBNe, Nat.reduceEqDiff, fS, h1, h2, h3, b1, b2, b3]
  by_cases k2 : k = 2
  · subst k2
    by_cases b1 : 0 ≤ p <;> by_cases b2 : 0 ≤ q <;> by_cases b3 : t = 0 <;> simp -implicitDefEqProofs only [go_sem, ↓reduceIte, reduceCtorEq, Int.reduceLT, Int.reduceLE, Int.reduceToNat, Nat.reduceAdd, Nat.reduceMul, Nat.reduceLeDiff, Nat.reduceLT, Nat.reduceSub, Int.reduceNeg, Int.reduceEq, Int.reduceBEq, Int.reduceBNe, Nat.reduceEqDiff, fS, h1, h2, h3, b1, b2, b3]
  by_cases k4 : k = 4
  · subst k4
    by_cases b1 : 0 ≤ p <;> by_cases b2 : 0 ≤ q <;> by_cases b3 : t = 0 <;> by_cases b4 : 1 ≤ t <;> by_cases b5 : t ≤ 2000 <;> simp -implicitDefEqProofs only [go_sem, ↓reduceIte, reduceCtorEq, Int.reduceLT, Int.reduceLE, Int.reduceToNat, Nat.reduceAdd, Nat.reduceMul, Nat.reduceLeDiff, Nat.reduceLT, Nat.reduceSub, Int.reduceNeg, Int.reduceEq, Int.reduceBEq, Int.reduceBNe, Nat.reduceEqDiff, fS, h1, h2, h3, b1, b2, b3, b4, b5]
  by_cases b1 : 0 ≤ p <;> by_cases b2 : 0 ≤ q <;> by_cases b3 : t = 0 <;> simp -implicitDefEqProofs only [go_sem, ↓reduceIte, reduceCtorEq, Int.reduceLT, Int.reduceLE, Int.reduceToNat, Nat.reduceAdd, Nat.reduceMul, Nat.reduceLeDiff, Nat.reduceLT, Nat.reduceSub, Int.reduceNeg, Int.reduceEq, Int.reduceBEq, Int.reduceBNe, Nat.reduceEqDiff, fS, h1, h2, h3, k0, k1, k2, k3, k4, b1, b2, b3]
end Vg.G3
