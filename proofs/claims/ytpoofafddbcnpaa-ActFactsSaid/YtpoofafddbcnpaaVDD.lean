import Derived.Test.YtpoofafddbcnpaaVDB
import Derived.Test.YtpoofafddbcnpaaVDP
import Derived.Test.YtpoofafddbcnpaaVDDa
namespace Vg.G3
open Go Lg
set_option linter.unusedSimpArgs false
set_option linter.unusedVariables false
set_option maxRecDepth 10000
set_option maxHeartbeats 1000000
attribute [local congr] bind_congr1
attribute [local go_sem] fact_Compare_r0 fact_Compare_r1 fact_Compare_f fact_Compare_v slices_Equal_gantryfactFact_r0 slices_Equal_gantryfactFact_r1 slices_Equal_gantryfactFact_r2 slices_Equal_gantryfactFact_r3 slices_Equal_gantryfactFact_r4 slices_Equal_gantryfactFact_r5 slices_Equal_gantryfactFact_r6 slices_Equal_gantryfactFact_r6_d slices_Equal_gantryfactFact_r7 slices_Equal_gantryfactFact_r8 slices_Equal_gantryfactFact_r9 slices_Equal_gantryfactFact_f slices_Equal_gantryfactFact_v

theorem factCompare_spec (a b c a' b' c' : Int) (lo : Nat) (h : VHeap) : callVL vp lo n_fact_Compare [.agg [.int .i64 a, .int .i64 b, .int .i64 c], .agg [.int .i64 a', .int .i64 b', .int .i64 c']] h = some (.int .i64 (cmpI [a, b, c] [a', b', c']), h) := by
  refine call_valE (fn := fact_Compare_v) rfl rfl rfl rfl rfl ?_ lo h
  have hS := sCompare_spec [a, b, c] [a', b', c'] (by simp)
  simp only [List.map_cons, List.map_nil, fJ] at hS
  simp -implicitDefEqProofs only [go_sem, ↓reduceIte, reduceCtorEq, Int.reduceLT, Int.reduceLE, Int.reduceToNat, Nat.reduceAdd, Nat.reduceMul, Nat.reduceLeDiff, Nat.reduceLT, Nat.reduceSub, Int.reduceNeg, Int.reduceEq, Int.reduceBEq, Int.reduceBNe, Nat.reduceEqDiff, hS]

theorem Compare_spec (f g : Fa) (lo : Nat) (h : VHeap) : callVL vp lo n_fact_Compare [.agg (fF f), .agg (fF g)] h = some (.int .i64 (cmpI (toI f) (toI g)), h) := factCompare_spec f.k f.a f.b g.k g.a g.b lo h
theorem Equal_spec (A B : List Fa) (hA : A.length ≤ 1000) (hB : B.length ≤ 1000) (lo : Nat) (h : VHeap) : callVL vp lo n_slices_Equal_gantryfactFact [.list .s (A.map fF), .list .s (B.map fF)] h = some (.bool (decide (A = B)), h) := by
  refine call_valE (fn := slices_Equal_gantryfactFact_v) rfl rfl rfl rfl rfl ?_ lo h
  generalize hT : decide (A = B) = T
  obtain ⟨P, hP⟩ : ∃ P : VV → Prop, P = fun w : VV => w = .bool T := ⟨_, rfl⟩
  have hP1 : P (.bool T) := by subst hP; rfl
  have hP2 : (fun r : VV × VHeap => r.1 = .bool T) = fun r => P r.1 := by subst hP; rfl
  rw [hP2]
  clear hP hP2
  by_cases hl : A.length = B.length
  case neg =>
    obtain rfl : false = T := by rw [← hT, eq_comm, decide_eq_false_iff_not]; exact fun h => hl (by rw [h])
    have hl' : ¬ (A.length : Int) = (B.length : Int) := by omega
    simp -implicitDefEqProofs only [slices_Equal_gantryfactFact_b0, go_sem, ↓reduceIte, reduceCtorEq, Int.reduceLT, Int.reduceLE, Int.reduceToNat, Nat.reduceAdd, Nat.reduceMul, Nat.reduceLeDiff, Nat.reduceLT, Nat.reduceSub, Int.reduceNeg, Int.reduceEq, Int.reduceBEq, Int.reduceBNe, Nat.reduceEqDiff, hl']
    exact hP1
  simp -implicitDefEqProofs only [go_sem, ↓reduceIte, reduceCtorEq, Int.reduceLT, Int.reduceLE, Int.reduceToNat, Nat.reduceAdd, Nat.reduceMul, Nat.reduceLeDiff, Nat.reduceLT, Nat.reduceSub, Int.reduceNeg, Int.reduceEq, Int.reduceBEq, Int.reduceBNe, Nat.reduceEqDiff, hl]
  rw [Sat_bind]
  refine loop_up (I := fun i env h' => h' = [] ∧ (∀ j, j < i → A[j]? = B[j]?) ∧ env = [.list .s (A.map fF), .list .s (B.map fF), .undef, .undef, .undef, .undef, .undef, .undef, .undef, .undef, .undef, .undef, .int .i64 ((B.length : Nat) : Int), .int .i64 ((i : Nat) : Int), .undef, .undef, .undef, .undef, .undef, .undef, .undef, .undef, .undef, .undef, .undef, .undef]) B.length ?_ ?_ (Nat.zero_le _) ⟨rfl, fun j hj => absurd hj (Nat.not_lt_zero j), by simp -implicitDefEqProofs only [go_sem, ↓reduceIte, reduceCtorEq, Int.reduceLT, Int.reduceLE, Int.reduceToNat, Nat.reduceAdd, Nat.reduceMul, Nat.reduceLeDiff, Nat.reduceLT, Nat.reduceSub, Int.reduceNeg, Int.reduceEq, Int.reduceBEq, Int.reduceBNe, Nat.reduceEqDiff]⟩
  · rintro i env h' hi ⟨rfl, hI, rfl⟩
    obtain ⟨f, hf⟩ := get_some (xs := A) (i := i) (by omega)
    obtain ⟨g, hg⟩ := get_some hi
    have hfg := get_map (F := fF) hf
    have hgg := get_map (F := fF) hg
    simp only [fF] at hfg hgg
    have hi' : (i : Int) < (B.length : Int) := by omega
    have hw := wrap_succ (i := i) (by omega)
    have bad : f ≠ g → false = T := by
      intro hne
      rw [← hT, eq_comm, decide_eq_false_iff_not]
      intro e
      rw [e, hg] at hf
      cases hf; exact hne rfl
    by_cases e1 : f.k = g.k
    · by_cases e2 : f.a = g.a
      · by_cases e3 : f.b = g.b
        · simp -implicitDefEqProofs only [slices_Equal_gantryfactFact_b0, go_sem, ↓reduceIte, reduceCtorEq, Int.reduceLT, Int.reduceLE, Int.reduceToNat, Nat.reduceAdd, Nat.reduceMul, Nat.reduceLeDiff, Nat.reduceLT, Nat.reduceSub, Int.reduceNeg, Int.reduceEq, Int.reduceBEq, Int.reduceBNe, Nat.reduceEqDiff, hi', hfg, hgg, hw, e1, e2, e3]
          intro j hj
          rcases Nat.lt_succ_iff_lt_or_eq.1 hj with hj | rfl
          · exact hI j hj
          · rw [hf, hg]; cases f; cases g; simp only at e1 e2 e3; rw [e1, e2, e3]
        · obtain rfl := bad fun h => e3 (by rw [h])
          simp -implicitDefEqProofs only [slices_Equal_gantryfactFact_b0, go_sem, ↓reduceIte, reduceCtorEq, Int.reduceLT, Int.reduceLE, Int.reduceToNat, Nat.reduceAdd, Nat.reduceMul, Nat.reduceLeDiff, Nat.reduceLT, Nat.reduceSub, Int.reduceNeg, Int.reduceEq, Int.reduceBEq, Int.reduceBNe, Nat.reduceEqDiff, hi', hfg, hgg, hw, e1, e2, e3]
          exact hP1
      · obtain rfl := bad fun h => e2 (by rw [h])
        simp -implicitDefEqProofs only [slices_Equal_gantryfactFact_b0, go_sem, ↓reduceIte, reduceCtorEq, Int.reduceLT, Int.reduceLE, Int.reduceToNat, Nat.reduceAdd, Nat.reduceMul, Nat.reduceLeDiff, Nat.reduceLT, Nat.reduceSub, Int.reduceNeg, Int.reduceEq, Int.reduceBEq, Int.reduceBNe, Nat.reduceEqDiff, hi', hfg, hgg, hw, e1, e2]
        exact hP1
    · obtain rfl := bad fun h => e1 (by rw [h])
      simp -implicitDefEqProofs only [slices_Equal_gantryfactFact_b0, go_sem, ↓reduceIte, reduceCtorEq, Int.reduceLT, Int.reduceLE, Int.reduceToNat, Nat.reduceAdd, Nat.reduceMul, Nat.reduceLeDiff, Nat.reduceLT, Nat.reduceSub, Int.reduceNeg, Int.reduceEq, Int.reduceBEq, Int.reduceBNe, Nat.reduceEqDiff, hi', hfg, hgg, hw, e1]
      exact hP1
  · rintro env h' ⟨rfl, hI, rfl⟩
    obtain rfl : true = T := by
      rw [← hT, eq_comm, decide_eq_true_iff]
      refine List.ext_getElem? fun j => ?_
      rcases Nat.lt_or_ge j B.length with hj | hj
      · exact hI j hj
      · rw [List.getElem?_eq_none hj, List.getElem?_eq_none (by omega)]
    simp -implicitDefEqProofs only [slices_Equal_gantryfactFact_b0, go_sem, ↓reduceIte, reduceCtorEq, Int.reduceLT, Int.reduceLE, Int.reduceToNat, Nat.reduceAdd, Nat.reduceMul, Nat.reduceLeDiff, Nat.reduceLT, Nat.reduceSub, Int.reduceNeg, Int.reduceEq, Int.reduceBEq, Int.reduceBNe, Nat.reduceEqDiff, Int.lt_irrefl]
    exact hP1
end Vg.G3
