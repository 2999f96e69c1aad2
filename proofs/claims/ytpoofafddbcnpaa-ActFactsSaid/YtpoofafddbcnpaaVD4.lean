import Derived.Test.YtpoofafddbcnpaaVD2
namespace Vg.G3
open Go Lg
set_option linter.unusedSimpArgs false
set_option maxRecDepth 10000
set_option maxHeartbeats 8000000
attribute [local congr] bind_congr1
attribute [local go_sem] fact_Clash_r0 fact_Clash_r1 fact_Clash_r2 fact_Clash_r3 fact_Clash_r4 fact_Clash_r5 fact_Clash_r6 fact_Clash_r7 fact_Clash_r8 fact_Clash_r9 fact_Clash_r10 fact_Clash_r11 fact_Clash_r12 fact_Clash_r13 fact_Clash_r14 fact_Clash_r15 fact_Clash_f fact_Clash_v

theorem valid_kind {f : Fa} (h : validF f = true) : f.k = 1 ∨ f.k = 2 ∨ f.k = 3 ∨ f.k = 4 ∨ f.k = 5 ∨ f.k = 6 := by
  by_cases h1 : f.k = 1
  · exact .inl h1
  by_cases h2 : f.k = 2
  · exact .inr (.inl h2)
  by_cases h3 : f.k = 3
  · exact .inr (.inr (.inl h3))
  by_cases h4 : f.k = 4
  · exact .inr (.inr (.inr (.inl h4)))
  by_cases h5 : f.k = 5
  · exact .inr (.inr (.inr (.inr (.inl h5))))
  by_cases h6 : f.k = 6
  · exact .inr (.inr (.inr (.inr (.inr h6))))
  · simp [validF, lim, h1, h2, h3, h4, h5, h6] at h; omega
theorem Clash_spec (f g : Fa) (lo : Nat) (h : VHeap) : callVL vp lo n_fact_Clash [.agg (fF f), .agg (fF g)] h = some (.bool (clashF f g), h) := by
  have hVf := Valid_spec f
  have hVg := Valid_spec g
  refine call_valE (fn := fact_Clash_v) rfl rfl rfl (by cases f; cases g; rfl) rfl ?_ lo h
  by_cases hf : validF f = true
  case neg =>
    have hc : clashF f g = false := if_neg fun h => hf h.1
    rw [hc]
    simp only [fF] at hVf
    simp -implicitDefEqProofs only [go_sem, ↓reduceIte, reduceCtorEq, Int.reduceLT, Int.reduceLE, Int.reduceToNat, Nat.reduceAdd, Nat.reduceMul, Nat.reduceLeDiff, Nat.reduceLT, Nat.reduceSub, Int.reduceNeg, Int.reduceEq, Int.reduceBEq, Int.reduceBNe, Nat.reduceEqDiff, fF, hVf, hf]
  by_cases hg : validF g = true
  case neg =>
    have hc : clashF f g = false := if_neg fun h => hg h.2.1
    rw [hc]
    simp only [fF] at hVf hVg
    simp -implicitDefEqProofs only [go_sem, ↓reduceIte, reduceCtorEq, Int.reduceLT, Int.reduceLE, Int.reduceToNat, Nat.reduceAdd, Nat.reduceMul, Nat.reduceLeDiff, Nat.reduceLT, Nat.reduceSub, Int.reduceNeg, Int.reduceEq, Int.reduceBEq, Int.reduceBNe, Nat.reduceEqDiff, fF, hVf, hf, hVg, hg]
  have kf := valid_kind hf
  have kg := valid_kind hg
  obtain ⟨k, a, b⟩ := f
  obtain ⟨k', a', b'⟩ := g
  simp only at kf kg
  simp only [fF, hf] at hVf
  simp only [fF, hg] at hVg
  have hc : clashF ⟨k, a, b⟩ ⟨k', a', b'⟩ = if (⟨k, a, b⟩ : Fa) ≠ ⟨k', a', b'⟩ then (if k' < k then core ⟨k', a', b'⟩ ⟨k, a, b⟩ else core ⟨k, a, b⟩ ⟨k', a', b'⟩) else false := by
    unfold clashF; simp only [hf, hg, true_and]
  rw [hc]
  clear hc hf hg
  rcases kf with rfl | rfl | rfl | rfl | rfl | rfl <;> rcases kg with rfl | rfl | rfl | rfl | rfl | rfl
  all_goals first
    | (simp -implicitDefEqProofs only [go_sem, ↓reduceIte, reduceCtorEq, Int.reduceLT, Int.reduceLE, Int.reduceToNat, Nat.reduceAdd, Nat.reduceMul, Nat.reduceLeDiff, Nat.reduceLT, Nat.reduceSub, Int.reduceNeg, Int.reduceEq, Int.reduceBEq, Int.reduceBNe, Nat.reduceEqDiff, fF, hVf, hVg, core, Fa.mk.injEq]; done)
    | (rcases Decidable.em (a = a') with rfl | ha <;> rcases Decidable.em (b = b') with rfl | hb <;> simp -implicitDefEqProofs (maxSteps := 4000000) only [go_sem, ↓reduceIte, reduceCtorEq, Int.reduceLT, Int.reduceLE, Int.reduceToNat, Nat.reduceAdd, Nat.reduceMul, Nat.reduceLeDiff, Nat.reduceLT, Nat.reduceSub, Int.reduceNeg, Int.reduceEq, Int.reduceBEq, Int.reduceBNe, Nat.reduceEqDiff, fF, hVf, hVg, core, Fa.mk.injEq, *]; done)
    | (rcases Decidable.em (a = b') with rfl | ha <;> simp -implicitDefEqProofs only [go_sem, ↓reduceIte, reduceCtorEq, Int.reduceLT, Int.reduceLE, Int.reduceToNat, Nat.reduceAdd, Nat.reduceMul, Nat.reduceLeDiff, Nat.reduceLT, Nat.reduceSub, Int.reduceNeg, Int.reduceEq, Int.reduceBEq, Int.reduceBNe, Nat.reduceEqDiff, fF, hVf, hVg, core, Fa.mk.injEq, *]; done)
    | (rcases Decidable.em (b = a') with rfl | ha <;> simp -implicitDefEqProofs only [go_sem, ↓reduceIte, reduceCtorEq, Int.reduceLT, Int.reduceLE, Int.reduceToNat, Nat.reduceAdd, Nat.reduceMul, Nat.reduceLeDiff, Nat.reduceLT, Nat.reduceSub, Int.reduceNeg, Int.reduceEq, Int.reduceBEq, Int.reduceBNe, Nat.reduceEqDiff, fF, hVf, hVg, core, Fa.mk.injEq, *]; done)
    | skip
end Vg.G3
namespace Vg.G3
open Go Lg
set_option linter.unusedSimpArgs false
set_option linter.unusedVariables false
set_option maxRecDepth 10000
set_option maxHeartbeats 2000000
attribute [local congr] bind_congr1
attribute [local go_sem] fact_Sound_r0 fact_Sound_r1 fact_Sound_r2 fact_Sound_r3 fact_Sound_r4 fact_Sound_r5 fact_Sound_r6 fact_Sound_r7 fact_Sound_r8 fact_Sound_r9 fact_Sound_r10 fact_Sound_r11 fact_Sound_f fact_Sound_v

def soundF (l : List Fa) : Bool := l.all fun f => l.all fun g => !clashF f g
theorem soundF_iff (l : List Fa) : soundF l = true ↔ ∀ f ∈ l, ∀ g ∈ l, clashF f g = false := by simp [soundF]
theorem Sound_in {i : Nat} {f : Fa} {l : List Fa} (hi : i < l.length) (hf : l[i]? = some f) (hl : l.length ≤ 1000) (Q : Out × VEnv × VHeap → Prop)
    (h1 : (∀ j g, j < i → l[j]? = some g → clashF f g = false) → Q (.exit 2, [.list .s (l.map fF), .undef, .undef, .undef, .ptr 0 0, .undef, .undef, .list .s (l.map fF), .int .i64 ((l.length : Nat) : Int), .int .i64 ((i : Nat) : Int), .undef, .undef, .undef, .undef, .undef, .undef, .list .s ((l.map fF).take i), .int .i64 ((i : Nat) : Int), .int .i64 ((i : Nat) : Int), .bool false, .undef, .undef, .undef, .undef, .undef, .undef, .undef], [.cells true [.int .i64 f.k, .int .i64 f.a, .int .i64 f.b]]))
    (h2 : ∀ g env' h', g ∈ l → clashF f g = true → env'.getD 2 .undef = .bool false → Q (.ret, env', h')) :
    Sat (loopV (callVL vp) 0 [0, 4, 7, 8, 9, 16, 17, 18] fact_Sound_b1 [.list .s (l.map fF), .undef, .undef, .undef, .ptr 0 0, .undef, .undef, .list .s (l.map fF), .int .i64 ((l.length : Nat) : Int), .int .i64 ((i : Nat) : Int), .undef, .undef, .undef, .undef, .undef, .undef, .list .s ((l.map fF).take i), .int .i64 ((i : Nat) : Int), .int .i64 0, .undef, .undef, .undef, .undef, .undef, .undef, .undef, .undef] [.cells true [.int .i64 f.k, .int .i64 f.a, .int .i64 f.b]]) Q := by
  refine loop_up (I := fun j env h => h = [.cells true [.int .i64 f.k, .int .i64 f.a, .int .i64 f.b]] ∧ (∀ m g, m < j → l[m]? = some g → clashF f g = false) ∧ env = [.list .s (l.map fF), .undef, .undef, .undef, .ptr 0 0, .undef, .undef, .list .s (l.map fF), .int .i64 ((l.length : Nat) : Int), .int .i64 ((i : Nat) : Int), .undef, .undef, .undef, .undef, .undef, .undef, .list .s ((l.map fF).take i), .int .i64 ((i : Nat) : Int), .int .i64 ((j : Nat) : Int), .undef, .undef, .undef, .undef, .undef, .undef, .undef, .undef]) i ?_ ?_ (Nat.zero_le i) ⟨rfl, fun m g hm => absurd hm (Nat.not_lt_zero m), by simp -implicitDefEqProofs only [go_sem, ↓reduceIte, reduceCtorEq, Int.reduceLT, Int.reduceLE, Int.reduceToNat, Nat.reduceAdd, Nat.reduceMul, Nat.reduceLeDiff, Nat.reduceLT, Nat.reduceSub, Int.reduceNeg, Int.reduceEq, Int.reduceBEq, Int.reduceBNe, Nat.reduceEqDiff]⟩
  · rintro j env h hj ⟨rfl, hA, rfl⟩
    obtain ⟨g, hg⟩ := get_some (show j < l.length by omega)
    have hgj : ((l.map fF).take i)[j]? = some (fF g) := by rw [List.getElem?_take, if_pos hj]; exact get_map hg
    have hj' : (j : Int) < (i : Int) := by omega
    have hw := wrap_succ (i := j) (by omega)
    have hC := Clash_spec f g
    simp only [fF] at hgj hC
    cases hcl : clashF f g with
    | true =>
      simp -implicitDefEqProofs only [fact_Sound_b1, fact_Sound_b0, go_sem, ↓reduceIte, reduceCtorEq, Int.reduceLT, Int.reduceLE, Int.reduceToNat, Nat.reduceAdd, Nat.reduceMul, Nat.reduceLeDiff, Nat.reduceLT, Nat.reduceSub, Int.reduceNeg, Int.reduceEq, Int.reduceBEq, Int.reduceBNe, Nat.reduceEqDiff, hj', hgj, hC, hcl]
      exact h2 g _ _ (List.mem_of_getElem? hg) hcl rfl
    | false =>
      simp -implicitDefEqProofs only [fact_Sound_b1, fact_Sound_b0, go_sem, ↓reduceIte, reduceCtorEq, Int.reduceLT, Int.reduceLE, Int.reduceToNat, Nat.reduceAdd, Nat.reduceMul, Nat.reduceLeDiff, Nat.reduceLT, Nat.reduceSub, Int.reduceNeg, Int.reduceEq, Int.reduceBEq, Int.reduceBNe, Nat.reduceEqDiff, hj', hgj, hC, hcl, hw]
      intro m g' hm hg'
      rcases Nat.lt_succ_iff_lt_or_eq.1 hm with hm | rfl
      · exact hA m g' hm hg'
      · rw [hg] at hg'; cases hg'; exact hcl
  · rintro env h ⟨rfl, hA, rfl⟩
    simp -implicitDefEqProofs only [fact_Sound_b1, fact_Sound_b0, go_sem, ↓reduceIte, reduceCtorEq, Int.reduceLT, Int.reduceLE, Int.reduceToNat, Nat.reduceAdd, Nat.reduceMul, Nat.reduceLeDiff, Nat.reduceLT, Nat.reduceSub, Int.reduceNeg, Int.reduceEq, Int.reduceBEq, Int.reduceBNe, Nat.reduceEqDiff, Int.lt_irrefl]
    exact h1 hA
theorem Sound_spec (l : List Fa) (hl : l.length ≤ 1000) (lo : Nat) (h : VHeap) : callVL vp lo n_fact_Sound [.list .s (l.map fF)] h = some (.bool (soundF l), h) := by
  refine call_valE (fn := fact_Sound_v) rfl rfl rfl rfl rfl ?_ lo h
  generalize hT : soundF l = T
  obtain ⟨P, hP⟩ : ∃ P : VV → Prop, P = fun w : VV => w = .bool T := ⟨_, rfl⟩
  have hP1 : P (.bool T) := by subst hP; rfl
  have hP2 : (fun r : VV × VHeap => r.1 = .bool T) = fun r => P r.1 := by subst hP; rfl
  rw [hP2]
  clear hP hP2
  simp -implicitDefEqProofs only [go_sem, ↓reduceIte, reduceCtorEq, Int.reduceLT, Int.reduceLE, Int.reduceToNat, Nat.reduceAdd, Nat.reduceMul, Nat.reduceLeDiff, Nat.reduceLT, Nat.reduceSub, Int.reduceNeg, Int.reduceEq, Int.reduceBEq, Int.reduceBNe, Nat.reduceEqDiff]
  rw [Sat_bind]
  refine loop_up (I := fun i env h => h = [] ∧ (∀ m j f g, m < i → j < m → l[m]? = some f → l[j]? = some g → clashF f g = false) ∧ env = [.list .s (l.map fF), .undef, .undef, .undef, .undef, .undef, .undef, .list .s (l.map fF), .int .i64 ((l.length : Nat) : Int), .int .i64 ((i : Nat) : Int), .undef, .undef, .undef, .undef, .undef, .undef, .undef, .undef, .undef, .undef, .undef, .undef, .undef, .undef, .undef, .undef, .undef]) l.length ?_ ?_ (Nat.zero_le _) ⟨rfl, fun m j f g hm => absurd hm (Nat.not_lt_zero m), by simp -implicitDefEqProofs only [go_sem, ↓reduceIte, reduceCtorEq, Int.reduceLT, Int.reduceLE, Int.reduceToNat, Nat.reduceAdd, Nat.reduceMul, Nat.reduceLeDiff, Nat.reduceLT, Nat.reduceSub, Int.reduceNeg, Int.reduceEq, Int.reduceBEq, Int.reduceBNe, Nat.reduceEqDiff]⟩
  · rintro i env h hi ⟨rfl, hA, rfl⟩
    obtain ⟨f, hf⟩ := get_some hi
    have hg := get_map (F := fF) hf
    have hi' : (i : Int) < (l.length : Int) := by omega
    have hw := wrap_succ (i := i) (by omega)
    have hle : i ≤ l.length := by omega
    have hal := all_len fF_len l
    have hlen : ((l.map fF).take i).length = i := by rw [List.length_take, List.length_map]; omega
    simp only [fF] at hg
    simp -implicitDefEqProofs only [fact_Sound_b0, go_sem, ↓reduceIte, reduceCtorEq, Int.reduceLT, Int.reduceLE, Int.reduceToNat, Nat.reduceAdd, Nat.reduceMul, Nat.reduceLeDiff, Nat.reduceLT, Nat.reduceSub, Int.reduceNeg, Int.reduceEq, Int.reduceBEq, Int.reduceBNe, Nat.reduceEqDiff, hi', hg, hle, hal, hlen]
    rw [Sat_bind]
    refine Sound_in hi hf hl _ ?_ ?_
    · intro hB
      simp -implicitDefEqProofs only [fact_Sound_b1, fact_Sound_b0, go_sem, ↓reduceIte, reduceCtorEq, Int.reduceLT, Int.reduceLE, Int.reduceToNat, Nat.reduceAdd, Nat.reduceMul, Nat.reduceLeDiff, Nat.reduceLT, Nat.reduceSub, Int.reduceNeg, Int.reduceEq, Int.reduceBEq, Int.reduceBNe, Nat.reduceEqDiff, hw]
      intro m j f' g hm hj hf' hg'
      rcases Nat.lt_succ_iff_lt_or_eq.1 hm with hm | rfl
      · exact hA m j f' g hm hj hf' hg'
      · rw [hf] at hf'; cases hf'; exact hB j g hj hg'
    · intro g env' h' hgm hcl h2
      simp -implicitDefEqProofs only [go_sem, ↓reduceIte, reduceCtorEq, Int.reduceLT, Int.reduceLE, Int.reduceToNat, Nat.reduceAdd, Nat.reduceMul, Nat.reduceLeDiff, Nat.reduceLT, Nat.reduceSub, Int.reduceNeg, Int.reduceEq, Int.reduceBEq, Int.reduceBNe, Nat.reduceEqDiff, h2]
      obtain rfl : false = T := by
        rw [← hT, eq_comm, ← Bool.not_eq_true, soundF_iff]
        intro hS
        rw [hS f (List.mem_of_getElem? hf) g hgm] at hcl
        cases hcl
      exact hP1
  · rintro env h ⟨rfl, hA, rfl⟩
    simp -implicitDefEqProofs only [fact_Sound_b0, go_sem, ↓reduceIte, reduceCtorEq, Int.reduceLT, Int.reduceLE, Int.reduceToNat, Nat.reduceAdd, Nat.reduceMul, Nat.reduceLeDiff, Nat.reduceLT, Nat.reduceSub, Int.reduceNeg, Int.reduceEq, Int.reduceBEq, Int.reduceBNe, Nat.reduceEqDiff, Int.lt_irrefl]
    obtain rfl : true = T := by
      rw [← hT, eq_comm, soundF_iff]
      intro f hf g hg
      obtain ⟨m, hm⟩ := List.mem_iff_getElem?.1 hf
      obtain ⟨j, hj⟩ := List.mem_iff_getElem?.1 hg
      rcases Nat.lt_trichotomy j m with h | rfl | h
      · exact hA m j f g (lt_of_getElem? hm) h hm hj
      · rw [hm] at hj; cases hj; exact clash_self f
      · rw [clash_symm]; exact hA j m g f (lt_of_getElem? hj) h hj hm
    exact hP1
end Vg.G3
