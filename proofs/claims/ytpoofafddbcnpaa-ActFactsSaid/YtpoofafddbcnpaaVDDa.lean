import Derived.Test.YtpoofafddbcnpaaVG3
import Derived.Test.YtpoofafddbcnpaaVVgLib
namespace Vg.G3
open Go Lg
set_option linter.unusedSimpArgs false
set_option linter.unusedVariables false
set_option maxRecDepth 10000
set_option maxHeartbeats 1000000
attribute [local congr] bind_congr1
attribute [local go_sem] cmp_isNaN_int_r0 cmp_isNaN_int_r1 cmp_isNaN_int_f cmp_isNaN_int_v cmp_Compare_int_r0 cmp_Compare_int_r1 cmp_Compare_int_r2 cmp_Compare_int_r3 cmp_Compare_int_r4 cmp_Compare_int_r5 cmp_Compare_int_r6 cmp_Compare_int_r7 cmp_Compare_int_r8 cmp_Compare_int_r9 cmp_Compare_int_r10 cmp_Compare_int_r11 cmp_Compare_int_r12 cmp_Compare_int_r13 cmp_Compare_int_f cmp_Compare_int_v slices_Compare_intint_r0 slices_Compare_intint_r1 slices_Compare_intint_r2 slices_Compare_intint_r3 slices_Compare_intint_r4 slices_Compare_intint_r5 slices_Compare_intint_r6 slices_Compare_intint_r7 slices_Compare_intint_r8 slices_Compare_intint_r9 slices_Compare_intint_r10 slices_Compare_intint_r11 slices_Compare_intint_r12 slices_Compare_intint_r13 slices_Compare_intint_f slices_Compare_intint_v

theorem isNaN_spec (n : Int) (lo : Nat) (h : VHeap) : callVL vp lo n_cmp_isNaN_int [.int .i64 n] h = some (.bool false, h) := by
  refine call_valE (fn := cmp_isNaN_int_v) rfl rfl rfl rfl rfl ?_ lo h
  simp -implicitDefEqProofs only [go_sem, ↓reduceIte, reduceCtorEq, Int.reduceLT, Int.reduceLE, Int.reduceToNat, Nat.reduceAdd, Nat.reduceMul, Nat.reduceLeDiff, Nat.reduceLT, Nat.reduceSub, Int.reduceNeg, Int.reduceEq, Int.reduceBEq, Int.reduceBNe, Nat.reduceEqDiff]
theorem cmp_spec (a b : Int) (lo : Nat) (h : VHeap) : callVL vp lo n_cmp_Compare_int [.int .i64 a, .int .i64 b] h = some (.int .i64 (if a < b then -1 else if b < a then 1 else 0), h) := by
  refine call_valE (fn := cmp_Compare_int_v) rfl rfl rfl rfl rfl ?_ lo h
  have hA := isNaN_spec a
  have hB := isNaN_spec b
  by_cases h1 : a < b
  · simp -implicitDefEqProofs only [go_sem, ↓reduceIte, reduceCtorEq, Int.reduceLT, Int.reduceLE, Int.reduceToNat, Nat.reduceAdd, Nat.reduceMul, Nat.reduceLeDiff, Nat.reduceLT, Nat.reduceSub, Int.reduceNeg, Int.reduceEq, Int.reduceBEq, Int.reduceBNe, Nat.reduceEqDiff, hA, hB, h1]
  · by_cases h2 : b < a <;> simp -implicitDefEqProofs only [go_sem, ↓reduceIte, reduceCtorEq, Int.reduceLT, Int.reduceLE, Int.reduceToNat, Nat.reduceAdd, Nat.reduceMul, Nat.reduceLeDiff, Nat.reduceLT, Nat.reduceSub, Int.reduceNeg, Int.reduceEq, Int.reduceBEq, Int.reduceBNe, Nat.reduceEqDiff, hA, hB, h1, h2]
def fJ (n : Int) : List VV := [.int .i64 n]
theorem dropJ {xs : List Int} {i : Nat} {x : Int} (h : xs[i]? = some x) : xs.drop i = x :: xs.drop (i + 1) := by
  obtain ⟨h1, h2⟩ := List.getElem?_eq_some_iff.1 h
  rw [List.drop_eq_getElem_cons h1, h2]
theorem sCompare_spec (A B : List Int) (hA : A.length ≤ 1000) (lo : Nat) (h : VHeap) : callVL vp lo n_slices_Compare_intint [.list .s (A.map fJ), .list .s (B.map fJ)] h = some (.int .i64 (cmpI A B), h) := by
  refine call_valE (fn := slices_Compare_intint_v) rfl rfl rfl rfl rfl ?_ lo h
  generalize hT : cmpI A B = T
  obtain ⟨P, hP⟩ : ∃ P : VV → Prop, P = fun w : VV => w = .int .i64 T := ⟨_, rfl⟩
  have hP1 : P (.int .i64 T) := by subst hP; rfl
  have hP2 : (fun r : VV × VHeap => r.1 = .int .i64 T) = fun r => P r.1 := by subst hP; rfl
  rw [hP2]
  clear hP hP2
  simp -implicitDefEqProofs only [go_sem, ↓reduceIte, reduceCtorEq, Int.reduceLT, Int.reduceLE, Int.reduceToNat, Nat.reduceAdd, Nat.reduceMul, Nat.reduceLeDiff, Nat.reduceLT, Nat.reduceSub, Int.reduceNeg, Int.reduceEq, Int.reduceBEq, Int.reduceBNe, Nat.reduceEqDiff]
  rw [Sat_bind]
  refine loop_up (I := fun i env h' => h' = [] ∧ cmpI (A.drop i) (B.drop i) = T ∧ env = [.list .s (A.map fJ), .list .s (B.map fJ), .undef, .undef, .undef, .undef, .undef, .undef, .undef, .list .s (A.map fJ), .int .i64 ((A.length : Nat) : Int), .int .i64 ((i : Nat) : Int), .undef, .undef, .undef, .undef, .undef, .undef, .undef, .undef, .undef, .undef, .undef, .undef, .undef, .undef, .undef, .undef, .undef, .undef, .undef, .undef, .undef, .undef, .undef, .undef]) A.length ?_ ?_ (Nat.zero_le _) ⟨rfl, hT, by simp -implicitDefEqProofs only [go_sem, ↓reduceIte, reduceCtorEq, Int.reduceLT, Int.reduceLE, Int.reduceToNat, Nat.reduceAdd, Nat.reduceMul, Nat.reduceLeDiff, Nat.reduceLT, Nat.reduceSub, Int.reduceNeg, Int.reduceEq, Int.reduceBEq, Int.reduceBNe, Nat.reduceEqDiff]⟩
  · rintro i env h' hi ⟨rfl, hI, rfl⟩
    obtain ⟨a, ha⟩ := get_some hi
    have hga := get_map (F := fJ) ha
    simp only [fJ] at hga
    have hi' : (i : Int) < (A.length : Int) := by omega
    have hw := wrap_succ (i := i) (by omega)
    rw [dropJ ha] at hI
    rcases Nat.lt_or_ge i B.length with hb | hb
    · obtain ⟨b, hb'⟩ := get_some hb
      have hgb := get_map (F := fJ) hb'
      simp only [fJ] at hgb
      have hc := cmp_spec a b
      have hge : ¬ (B.length : Int) ≤ (i : Int) := by omega
      rw [dropJ hb'] at hI
      simp only [cmpI] at hI
      by_cases h1 : a < b
      · simp only [h1, if_true] at hI hc
        subst hI
        simp -implicitDefEqProofs only [slices_Compare_intint_b0, go_sem, ↓reduceIte, reduceCtorEq, Int.reduceLT, Int.reduceLE, Int.reduceToNat, Nat.reduceAdd, Nat.reduceMul, Nat.reduceLeDiff, Nat.reduceLT, Nat.reduceSub, Int.reduceNeg, Int.reduceEq, Int.reduceBEq, Int.reduceBNe, Nat.reduceEqDiff, hi', hga, hgb, hge, hc]
        exact hP1
      · by_cases h2 : b < a
        · simp only [h1, h2, if_true, if_false] at hI hc
          subst hI
          simp -implicitDefEqProofs only [slices_Compare_intint_b0, go_sem, ↓reduceIte, reduceCtorEq, Int.reduceLT, Int.reduceLE, Int.reduceToNat, Nat.reduceAdd, Nat.reduceMul, Nat.reduceLeDiff, Nat.reduceLT, Nat.reduceSub, Int.reduceNeg, Int.reduceEq, Int.reduceBEq, Int.reduceBNe, Nat.reduceEqDiff, hi', hga, hgb, hge, hc]
          exact hP1
        · simp only [h1, h2, if_false] at hI hc
          simp -implicitDefEqProofs only [slices_Compare_intint_b0, go_sem, ↓reduceIte, reduceCtorEq, Int.reduceLT, Int.reduceLE, Int.reduceToNat, Nat.reduceAdd, Nat.reduceMul, Nat.reduceLeDiff, Nat.reduceLT, Nat.reduceSub, Int.reduceNeg, Int.reduceEq, Int.reduceBEq, Int.reduceBNe, Nat.reduceEqDiff, hi', hga, hgb, hge, hc, hw]
          exact hI
    · have hge : (B.length : Int) ≤ (i : Int) := by omega
      rw [List.drop_eq_nil_of_le hb] at hI
      simp only [cmpI] at hI
      subst hI
      simp -implicitDefEqProofs only [slices_Compare_intint_b0, go_sem, ↓reduceIte, reduceCtorEq, Int.reduceLT, Int.reduceLE, Int.reduceToNat, Nat.reduceAdd, Nat.reduceMul, Nat.reduceLeDiff, Nat.reduceLT, Nat.reduceSub, Int.reduceNeg, Int.reduceEq, Int.reduceBEq, Int.reduceBNe, Nat.reduceEqDiff, hi', hga, hge]
      exact hP1
  · rintro env h' ⟨rfl, hI, rfl⟩
    rw [List.drop_eq_nil_of_le (Nat.le_refl _)] at hI
    by_cases h1 : (A.length : Int) < (B.length : Int)
    · have : ∃ b t, B.drop A.length = b :: t := by
        obtain ⟨b, hb⟩ := get_some (show A.length < B.length by omega)
        exact ⟨_, _, dropJ hb⟩
      obtain ⟨b, t, hbt⟩ := this
      rw [hbt] at hI
      simp only [cmpI] at hI
      subst hI
      simp -implicitDefEqProofs only [slices_Compare_intint_b0, go_sem, ↓reduceIte, reduceCtorEq, Int.reduceLT, Int.reduceLE, Int.reduceToNat, Nat.reduceAdd, Nat.reduceMul, Nat.reduceLeDiff, Nat.reduceLT, Nat.reduceSub, Int.reduceNeg, Int.reduceEq, Int.reduceBEq, Int.reduceBNe, Nat.reduceEqDiff, Int.lt_irrefl, h1]
      exact hP1
    · rw [List.drop_eq_nil_of_le (by omega)] at hI
      simp only [cmpI] at hI
      subst hI
      simp -implicitDefEqProofs only [slices_Compare_intint_b0, go_sem, ↓reduceIte, reduceCtorEq, Int.reduceLT, Int.reduceLE, Int.reduceToNat, Nat.reduceAdd, Nat.reduceMul, Nat.reduceLeDiff, Nat.reduceLT, Nat.reduceSub, Int.reduceNeg, Int.reduceEq, Int.reduceBEq, Int.reduceBNe, Nat.reduceEqDiff, Int.lt_irrefl, h1]
      exact hP1
end Vg.G3
