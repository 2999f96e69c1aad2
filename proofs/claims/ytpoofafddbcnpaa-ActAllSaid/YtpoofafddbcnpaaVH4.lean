import Derived.Test.YtpoofafddbcnpaaVH2
namespace Vg.G3
open Go Lg
set_option linter.unusedSimpArgs false
set_option linter.unusedVariables false
set_option maxRecDepth 10000
set_option maxHeartbeats 4000000
attribute [local congr] bind_congr1
attribute [local go_sem] act_may_r0 act_may_r1 act_may_r1_d act_may_r2 act_may_r3 act_may_r4 act_may_r5 act_may_r6 act_may_r7 act_may_r8 act_may_r9 act_may_r10 act_may_r11 act_may_r12 act_may_r13 act_may_r14 act_may_r15 act_may_r16 act_may_r17 act_may_r18 act_may_r19 act_may_r20 act_may_r21 act_may_r22 act_may_r23 act_may_r24 act_may_r25 act_may_r26 act_may_r27 act_may_r28 act_may_f act_may_v

def hereF (w : Wd) (s : Stp) : Prop := targetF w s ≠ -1 ∧ gI w.sp s.a = targetF w s
/-- What a step whose arm, part and slot exist asks for. -/
def mayF (w : Wd) (s : Stp) : Prop :=
  (s.k = 0 → ¬ (0 ≤ s.p ∧ 0 ≤ holdsF w s.a) ∧ targetF w s ≠ -1 ∧ ¬ hereF w s ∧ targetF w s ∉ w.sp) ∧
  (s.k = 1 ∨ s.k = 3 → ¬ 0 ≤ holdsF w s.a ∧ hereF w s) ∧
  (s.k = 1 → gB w.sn s.p = true) ∧ (s.k = 3 → gB w.sn s.p = false) ∧
  (s.k = 2 → 0 ≤ holdsF w s.a ∧ hereF w s ∧ ¬ 0 ≤ inF w s.s)
theorem may_spec {w : Wd} (hs : Small w) (s : Stp) (ha0 : 0 ≤ s.a) (ha : s.a < w.sp.length) (hp : s.p < w.pl.length) (hp0 : s.k = 1 ∨ s.k = 3 → 0 ≤ s.p) : ∃ e : Int, (e = 0 ↔ mayF w s) ∧ ∀ lo h, callVL vp lo n_act_may [.agg (fW w), .agg (fS s)] h = some (.int .i64 e, h) := by
  obtain ⟨P, hP⟩ : ∃ P : VV → Prop, P = fun v : VV => ∃ e : Int, (e = 0 ↔ mayF w s) ∧ v = .int .i64 e := ⟨_, rfl⟩
  have key := call_val (p := vp) (f := n_act_may) (fn := act_may_v) (args := [.agg (fW w), .agg (fS s)]) (P := P) rfl rfl rfl rfl rfl ?_
  · obtain ⟨v, hv, hc⟩ := key; subst hP; obtain ⟨e, he, rfl⟩ := hv; exact ⟨e, he, hc⟩
  have hP0 : mayF w s → P (.int .i64 0) := fun h => by subst hP; exact ⟨0, ⟨fun _ => h, fun _ => rfl⟩, rfl⟩
  have hP1 : ∀ e : Int, e ≠ 0 → ¬ mayF w s → P (.int .i64 e) := fun e he h => by subst hP; exact ⟨e, ⟨fun h0 => absurd h0 he, fun h0 => absurd h0 h⟩, rfl⟩
  clear hP
  have hT := target_spec hs s
  have hH := Holds_spec hs s.a
  have hI := In_spec hs s.s
  have hsp := get_map (F := fI) (gI_get ha0 ha)
  have hC := Contains_i w.sp (targetF w s) (by have := hs.sp; omega)
  simp only [fI] at hsp
  simp only [fW, fS] at hT hH hI
  have hsn : s.k = 1 ∨ s.k = 3 → (w.sn.map fB)[s.p.toNat]? = some [VV.bool (gB w.sn s.p)] := fun h => get_map (F := fB) (gB_get (hp0 h) (by have := hs.sn; omega))
  unfold mayF hereF at hP0 hP1
  obtain ⟨k, a, p, q, t⟩ := s
  simp only at *
  generalize targetF w ⟨k, a, p, q, t⟩ = T at *
  generalize holdsF w a = H at *
  generalize inF w q = N at *
  generalize gI w.sp a = G at *
  by_cases k0 : k = 0
  · subst k0
    by_cases b1 : T = -1
    · by_cases b2 : 0 ≤ p
      · by_cases b3 : 0 ≤ H <;> simp -implicitDefEqProofs only [go_sem, ↓reduceIte, reduceCtorEq, Int.reduceLT, Int.reduceLE, Int.reduceToNat, Nat.reduceAdd, Nat.reduceMul, Nat.reduceLeDiff, Nat.reduceLT, Nat.reduceSub, Int.reduceNeg, Int.reduceEq, Int.reduceBEq, Int.reduceBNe, Nat.reduceEqDiff, fW, fS, hT, hH, b1, b2, b3] <;> exact hP1 _ (by decide) (by simp [b1, b2, b3])
      · by_cases b3 : 0 ≤ H <;> simp -implicitDefEqProofs only [go_sem, ↓reduceIte, reduceCtorEq, Int.reduceLT, Int.reduceLE, Int.reduceToNat, Nat.reduceAdd, Nat.reduceMul, Nat.reduceLeDiff, Nat.reduceLT, Nat.reduceSub, Int.reduceNeg, Int.reduceEq, Int.reduceBEq, Int.reduceBNe, Nat.reduceEqDiff, fW, fS, hT, hH, b1, b2, b3] <;> exact hP1 _ (by decide) (by simp [b1, b2, b3])
    by_cases b4 : G = T
    · by_cases b2 : 0 ≤ p
      · by_cases b3 : 0 ≤ H <;> simp -implicitDefEqProofs only [go_sem, ↓reduceIte, reduceCtorEq, Int.reduceLT, Int.reduceLE, Int.reduceToNat, Nat.reduceAdd, Nat.reduceMul, Nat.reduceLeDiff, Nat.reduceLT, Nat.reduceSub, Int.reduceNeg, Int.reduceEq, Int.reduceBEq, Int.reduceBNe, Nat.reduceEqDiff, fW, fS, hT, hH, hsp, ha0, b1, b2, b3, b4] <;> exact hP1 _ (by decide) (by simp [b1, b2, b3, b4])
      · by_cases b3 : 0 ≤ H <;> simp -implicitDefEqProofs only [go_sem, ↓reduceIte, reduceCtorEq, Int.reduceLT, Int.reduceLE, Int.reduceToNat, Nat.reduceAdd, Nat.reduceMul, Nat.reduceLeDiff, Nat.reduceLT, Nat.reduceSub, Int.reduceNeg, Int.reduceEq, Int.reduceBEq, Int.reduceBNe, Nat.reduceEqDiff, fW, fS, hT, hH, hsp, ha0, b1, b2, b3, b4] <;> exact hP1 _ (by decide) (by simp [b1, b2, b3, b4])
    by_cases b5 : T ∈ w.sp
    · by_cases b2 : 0 ≤ p
      · by_cases b3 : 0 ≤ H <;> simp -implicitDefEqProofs only [go_sem, ↓reduceIte, reduceCtorEq, Int.reduceLT, Int.reduceLE, Int.reduceToNat, Nat.reduceAdd, Nat.reduceMul, Nat.reduceLeDiff, Nat.reduceLT, Nat.reduceSub, Int.reduceNeg, Int.reduceEq, Int.reduceBEq, Int.reduceBNe, Nat.reduceEqDiff, fW, fS, hT, hH, hsp, ha0, hC, b1, b2, b3, b4, b5] <;> exact hP1 _ (by decide) (by simp [b1, b2, b3, b4, b5])
      · by_cases b3 : 0 ≤ H <;> simp -implicitDefEqProofs only [go_sem, ↓reduceIte, reduceCtorEq, Int.reduceLT, Int.reduceLE, Int.reduceToNat, Nat.reduceAdd, Nat.reduceMul, Nat.reduceLeDiff, Nat.reduceLT, Nat.reduceSub, Int.reduceNeg, Int.reduceEq, Int.reduceBEq, Int.reduceBNe, Nat.reduceEqDiff, fW, fS, hT, hH, hsp, ha0, hC, b1, b2, b3, b4, b5] <;> exact hP1 _ (by decide) (by simp [b1, b2, b3, b4, b5])
    · by_cases b2 : 0 ≤ p
      · by_cases b3 : 0 ≤ H
        · simp -implicitDefEqProofs only [go_sem, ↓reduceIte, reduceCtorEq, Int.reduceLT, Int.reduceLE, Int.reduceToNat, Nat.reduceAdd, Nat.reduceMul, Nat.reduceLeDiff, Nat.reduceLT, Nat.reduceSub, Int.reduceNeg, Int.reduceEq, Int.reduceBEq, Int.reduceBNe, Nat.reduceEqDiff, fW, fS, hT, hH, hsp, ha0, hC, b1, b2, b3, b4, b5]
          exact hP1 _ (by decide) (by simp [b1, b2, b3, b4, b5])
        · simp -implicitDefEqProofs only [go_sem, ↓reduceIte, reduceCtorEq, Int.reduceLT, Int.reduceLE, Int.reduceToNat, Nat.reduceAdd, Nat.reduceMul, Nat.reduceLeDiff, Nat.reduceLT, Nat.reduceSub, Int.reduceNeg, Int.reduceEq, Int.reduceBEq, Int.reduceBNe, Nat.reduceEqDiff, fW, fS, hT, hH, hsp, ha0, hC, b1, b2, b3, b4, b5]
          exact hP0 (by simp [b1, b2, b3, b4, b5])
      · by_cases b3 : 0 ≤ H <;> simp -implicitDefEqProofs only [go_sem, ↓reduceIte, reduceCtorEq, Int.reduceLT, Int.reduceLE, Int.reduceToNat, Nat.reduceAdd, Nat.reduceMul, Nat.reduceLeDiff, Nat.reduceLT, Nat.reduceSub, Int.reduceNeg, Int.reduceEq, Int.reduceBEq, Int.reduceBNe, Nat.reduceEqDiff, fW, fS, hT, hH, hsp, ha0, hC, b1, b2, b3, b4, b5] <;> exact hP0 (by simp [b1, b2, b3, b4, b5])
  by_cases k1 : k = 1
  · subst k1
    have hp' := hp0 (.inl rfl)
    have hsn := hsn (.inl rfl)
    generalize gB w.sn p = B at *
    by_cases b1 : T = -1
    · by_cases b3 : 0 ≤ H <;> simp -implicitDefEqProofs only [go_sem, ↓reduceIte, reduceCtorEq, Int.reduceLT, Int.reduceLE, Int.reduceToNat, Nat.reduceAdd, Nat.reduceMul, Nat.reduceLeDiff, Nat.reduceLT, Nat.reduceSub, Int.reduceNeg, Int.reduceEq, Int.reduceBEq, Int.reduceBNe, Nat.reduceEqDiff, fW, fS, hT, hH, b1, b3] <;> exact hP1 _ (by decide) (by simp [b1, b3])
    by_cases b3 : 0 ≤ H
    · by_cases b4 : G = T <;> simp -implicitDefEqProofs only [go_sem, ↓reduceIte, reduceCtorEq, Int.reduceLT, Int.reduceLE, Int.reduceToNat, Nat.reduceAdd, Nat.reduceMul, Nat.reduceLeDiff, Nat.reduceLT, Nat.reduceSub, Int.reduceNeg, Int.reduceEq, Int.reduceBEq, Int.reduceBNe, Nat.reduceEqDiff, fW, fS, hT, hH, hsp, ha0, b1, b3, b4] <;> exact hP1 _ (by decide) (by simp [b1, b3, b4])
    by_cases b4 : G = T
    · cases B
      · simp -implicitDefEqProofs only [go_sem, ↓reduceIte, reduceCtorEq, Int.reduceLT, Int.reduceLE, Int.reduceToNat, Nat.reduceAdd, Nat.reduceMul, Nat.reduceLeDiff, Nat.reduceLT, Nat.reduceSub, Int.reduceNeg, Int.reduceEq, Int.reduceBEq, Int.reduceBNe, Nat.reduceEqDiff, fW, fS, hT, hH, hsp, ha0, b1, b3, b4, hsn, hp']
        exact hP1 _ (by decide) (by simp [b1, b3, b4])
      · simp -implicitDefEqProofs only [go_sem, ↓reduceIte, reduceCtorEq, Int.reduceLT, Int.reduceLE, Int.reduceToNat, Nat.reduceAdd, Nat.reduceMul, Nat.reduceLeDiff, Nat.reduceLT, Nat.reduceSub, Int.reduceNeg, Int.reduceEq, Int.reduceBEq, Int.reduceBNe, Nat.reduceEqDiff, fW, fS, hT, hH, hsp, ha0, b1, b3, b4, hsn, hp']
        exact hP0 (by simp [b1, b3, b4])
    · simp -implicitDefEqProofs only [go_sem, ↓reduceIte, reduceCtorEq, Int.reduceLT, Int.reduceLE, Int.reduceToNat, Nat.reduceAdd, Nat.reduceMul, Nat.reduceLeDiff, Nat.reduceLT, Nat.reduceSub, Int.reduceNeg, Int.reduceEq, Int.reduceBEq, Int.reduceBNe, Nat.reduceEqDiff, fW, fS, hT, hH, hsp, ha0, b1, b3, b4]
      exact hP1 _ (by decide) (by simp [b1, b3, b4])
  by_cases k3 : k = 3
  · subst k3
    have hp' := hp0 (.inr rfl)
    have hsn := hsn (.inr rfl)
    generalize gB w.sn p = B at *
    by_cases b1 : T = -1
    · by_cases b3 : 0 ≤ H <;> simp -implicitDefEqProofs only [go_sem, ↓reduceIte, reduceCtorEq, Int.reduceLT, Int.reduceLE, Int.reduceToNat, Nat.reduceAdd, Nat.reduceMul, Nat.reduceLeDiff, Nat.reduceLT, Nat.reduceSub, Int.reduceNeg, Int.reduceEq, Int.reduceBEq, Int.reduceBNe, Nat.reduceEqDiff, fW, fS, hT, hH, b1, b3] <;> exact hP1 _ (by decide) (by simp [b1, b3])
    by_cases b3 : 0 ≤ H
    · by_cases b4 : G = T <;> simp -implicitDefEqProofs only [go_sem, ↓reduceIte, reduceCtorEq, Int.reduceLT, Int.reduceLE, Int.reduceToNat, Nat.reduceAdd, Nat.reduceMul, Nat.reduceLeDiff, Nat.reduceLT, Nat.reduceSub, Int.reduceNeg, Int.reduceEq, Int.reduceBEq, Int.reduceBNe, Nat.reduceEqDiff, fW, fS, hT, hH, hsp, ha0, b1, b3, b4] <;> exact hP1 _ (by decide) (by simp [b1, b3, b4])
    by_cases b4 : G = T
    · cases B
      · simp -implicitDefEqProofs only [go_sem, ↓reduceIte, reduceCtorEq, Int.reduceLT, Int.reduceLE, Int.reduceToNat, Nat.reduceAdd, Nat.reduceMul, Nat.reduceLeDiff, Nat.reduceLT, Nat.reduceSub, Int.reduceNeg, Int.reduceEq, Int.reduceBEq, Int.reduceBNe, Nat.reduceEqDiff, fW, fS, hT, hH, hsp, ha0, b1, b3, b4, hsn, hp']
        exact hP0 (by simp [b1, b3, b4])
      · simp -implicitDefEqProofs only [go_sem, ↓reduceIte, reduceCtorEq, Int.reduceLT, Int.reduceLE, Int.reduceToNat, Nat.reduceAdd, Nat.reduceMul, Nat.reduceLeDiff, Nat.reduceLT, Nat.reduceSub, Int.reduceNeg, Int.reduceEq, Int.reduceBEq, Int.reduceBNe, Nat.reduceEqDiff, fW, fS, hT, hH, hsp, ha0, b1, b3, b4, hsn, hp']
        exact hP1 _ (by decide) (by simp [b1, b3, b4])
    · simp -implicitDefEqProofs only [go_sem, ↓reduceIte, reduceCtorEq, Int.reduceLT, Int.reduceLE, Int.reduceToNat, Nat.reduceAdd, Nat.reduceMul, Nat.reduceLeDiff, Nat.reduceLT, Nat.reduceSub, Int.reduceNeg, Int.reduceEq, Int.reduceBEq, Int.reduceBNe, Nat.reduceEqDiff, fW, fS, hT, hH, hsp, ha0, b1, b3, b4]
      exact hP1 _ (by decide) (by simp [b1, b3, b4])
  by_cases k2 : k = 2
  · subst k2
    by_cases b1 : T = -1
    · by_cases b3 : 0 ≤ H <;> simp -implicitDefEqProofs only [go_sem, ↓reduceIte, reduceCtorEq, Int.reduceLT, Int.reduceLE, Int.reduceToNat, Nat.reduceAdd, Nat.reduceMul, Nat.reduceLeDiff, Nat.reduceLT, Nat.reduceSub, Int.reduceNeg, Int.reduceEq, Int.reduceBEq, Int.reduceBNe, Nat.reduceEqDiff, fW, fS, hT, hH, b1, b3] <;> exact hP1 _ (by decide) (by simp [b1, b3])
    by_cases b3 : 0 ≤ H
    · by_cases b4 : G = T
      · by_cases b5 : 0 ≤ N
        · simp -implicitDefEqProofs only [go_sem, ↓reduceIte, reduceCtorEq, Int.reduceLT, Int.reduceLE, Int.reduceToNat, Nat.reduceAdd, Nat.reduceMul, Nat.reduceLeDiff, Nat.reduceLT, Nat.reduceSub, Int.reduceNeg, Int.reduceEq, Int.reduceBEq, Int.reduceBNe, Nat.reduceEqDiff, fW, fS, hT, hH, hI, hsp, ha0, b1, b3, b4, b5]
          exact hP1 _ (by decide) (by simp [b1, b3, b4, b5])
        · simp -implicitDefEqProofs only [go_sem, ↓reduceIte, reduceCtorEq, Int.reduceLT, Int.reduceLE, Int.reduceToNat, Nat.reduceAdd, Nat.reduceMul, Nat.reduceLeDiff, Nat.reduceLT, Nat.reduceSub, Int.reduceNeg, Int.reduceEq, Int.reduceBEq, Int.reduceBNe, Nat.reduceEqDiff, fW, fS, hT, hH, hI, hsp, ha0, b1, b3, b4, b5]
          exact hP0 (by simp [b1, b3, b4]; omega)
      · simp -implicitDefEqProofs only [go_sem, ↓reduceIte, reduceCtorEq, Int.reduceLT, Int.reduceLE, Int.reduceToNat, Nat.reduceAdd, Nat.reduceMul, Nat.reduceLeDiff, Nat.reduceLT, Nat.reduceSub, Int.reduceNeg, Int.reduceEq, Int.reduceBEq, Int.reduceBNe, Nat.reduceEqDiff, fW, fS, hT, hH, hsp, ha0, b1, b3, b4]
        exact hP1 _ (by decide) (by simp [b1, b3, b4])
    · by_cases b4 : G = T <;> simp -implicitDefEqProofs only [go_sem, ↓reduceIte, reduceCtorEq, Int.reduceLT, Int.reduceLE, Int.reduceToNat, Nat.reduceAdd, Nat.reduceMul, Nat.reduceLeDiff, Nat.reduceLT, Nat.reduceSub, Int.reduceNeg, Int.reduceEq, Int.reduceBEq, Int.reduceBNe, Nat.reduceEqDiff, fW, fS, hT, hH, hsp, ha0, b1, b3, b4] <;> exact hP1 _ (by decide) (by simp [b1, b3, b4])
  · have hok := hP0 (by simp [k0, k1, k2, k3])
    by_cases b1 : T = -1
    · by_cases b3 : 0 ≤ H <;> simp -implicitDefEqProofs only [go_sem, ↓reduceIte, reduceCtorEq, Int.reduceLT, Int.reduceLE, Int.reduceToNat, Nat.reduceAdd, Nat.reduceMul, Nat.reduceLeDiff, Nat.reduceLT, Nat.reduceSub, Int.reduceNeg, Int.reduceEq, Int.reduceBEq, Int.reduceBNe, Nat.reduceEqDiff, fW, fS, hT, hH, k0, k1, k2, k3, b1, b3] <;> exact hok
    · by_cases b3 : 0 ≤ H <;> by_cases b4 : G = T <;> simp -implicitDefEqProofs only [go_sem, ↓reduceIte, reduceCtorEq, Int.reduceLT, Int.reduceLE, Int.reduceToNat, Nat.reduceAdd, Nat.reduceMul, Nat.reduceLeDiff, Nat.reduceLT, Nat.reduceSub, Int.reduceNeg, Int.reduceEq, Int.reduceBEq, Int.reduceBNe, Nat.reduceEqDiff, fW, fS, hT, hH, hsp, ha0, k0, k1, k2, k3, b1, b3, b4] <;> exact hok
end Vg.G3
