import Derived.Test.YtpoofafddbcnpaaVHE
import Derived.Test.YtpoofafddbcnpaaVDDa
namespace Vg.G3
open Go Lg
set_option linter.unusedSimpArgs false
set_option linter.unusedVariables false
set_option maxRecDepth 10000
set_option maxHeartbeats 4000000
attribute [local congr] bind_congr1
attribute [local go_sem] slices_Index_pgantryapiStep_r0 slices_Index_pgantryapiStep_r1 slices_Index_pgantryapiStep_r2 slices_Index_pgantryapiStep_r3 slices_Index_pgantryapiStep_r4 slices_Index_pgantryapiStep_r4_d slices_Index_pgantryapiStep_r5 slices_Index_pgantryapiStep_r6 slices_Index_pgantryapiStep_r7 slices_Index_pgantryapiStep_f slices_Index_pgantryapiStep_v slices_Contains_pgantryapiStep_r0 slices_Contains_pgantryapiStep_r1 slices_Contains_pgantryapiStep_f slices_Contains_pgantryapiStep_v act_Compare_r0 act_Compare_r1 act_Compare_f act_Compare_v slices_IsSortedFunc_pgantryapiStep_r0 slices_IsSortedFunc_pgantryapiStep_r1 slices_IsSortedFunc_pgantryapiStep_r2 slices_IsSortedFunc_pgantryapiStep_r3 slices_IsSortedFunc_pgantryapiStep_r3_d slices_IsSortedFunc_pgantryapiStep_r4 slices_IsSortedFunc_pgantryapiStep_r5 slices_IsSortedFunc_pgantryapiStep_r6 slices_IsSortedFunc_pgantryapiStep_f slices_IsSortedFunc_pgantryapiStep_v
theorem IndexSt_spec (l : List Stp) (f : Stp) (hl : l.length ≤ 100000) (lo : Nat) (h : VHeap) : ∃ n : Int, (0 ≤ n ↔ f ∈ l) ∧ callVL vp lo n_slices_Index_pgantryapiStep [.list .s (l.map fS), .agg (fS f)] h = some (.int .i64 n, h) := by
  obtain ⟨P, hP⟩ : ∃ P : VV → Prop, P = fun w : VV => ∃ n : Int, (0 ≤ n ↔ f ∈ l) ∧ w = .int .i64 n := ⟨_, rfl⟩
  have key := call_val (p := vp) (f := n_slices_Index_pgantryapiStep) (fn := slices_Index_pgantryapiStep_v) (args := [.list .s (l.map fS), .agg (fS f)]) (P := P) rfl rfl rfl rfl rfl ?_
  · obtain ⟨v, hv, hc⟩ := key; subst hP; obtain ⟨n, hn, rfl⟩ := hv; exact ⟨n, hn, hc lo h⟩
  have hP1 : ∀ n : Int, (0 ≤ n ↔ f ∈ l) → P (.int .i64 n) := fun n hn => by subst hP; exact ⟨n, hn, rfl⟩
  clear hP
  simp -implicitDefEqProofs only [go_sem, ↓reduceIte, reduceCtorEq, Int.reduceLT, Int.reduceLE, Int.reduceToNat, Nat.reduceAdd, Nat.reduceMul, Nat.reduceLeDiff, Nat.reduceLT, Nat.reduceSub, Int.reduceNeg, Int.reduceEq, Int.reduceBEq, Int.reduceBNe, Nat.reduceEqDiff, fS]
  rw [Sat_bind]
  refine loop_up (I := fun i env h' => h' = [.cells true [.int .i64 f.k, .int .i64 f.a, .int .i64 f.p, .int .i64 f.s, .int .i64 f.t]] ∧ (∀ j g, j < i → l[j]? = some g → g ≠ f) ∧ env = [.list .s (l.map fS), .undef, .undef, .ptr 0 0, .undef, .undef, .undef, .int .i64 ((l.length : Nat) : Int), .int .i64 ((i : Nat) : Int), .undef, .undef, .undef, .undef, .undef, .undef, .undef, .undef, .undef, .undef]) l.length ?_ ?_ (Nat.zero_le _) ⟨rfl, fun j g hj => absurd hj (Nat.not_lt_zero j), by simp -implicitDefEqProofs only [go_sem, ↓reduceIte, reduceCtorEq, Int.reduceLT, Int.reduceLE, Int.reduceToNat, Nat.reduceAdd, Nat.reduceMul, Nat.reduceLeDiff, Nat.reduceLT, Nat.reduceSub, Int.reduceNeg, Int.reduceEq, Int.reduceBEq, Int.reduceBNe, Nat.reduceEqDiff, fS]⟩
  · rintro i env h' hi ⟨rfl, hA, rfl⟩
    obtain ⟨x, hx⟩ := get_some hi
    have hi' : (i : Int) < (l.length : Int) := by omega
    have hw := wrap_succ (i := i) (by omega)
    have hg := get_map (F := fS) hx
    simp only [fS] at hg
    have next : x ≠ f → ∀ j g, j < i + 1 → l[j]? = some g → g ≠ f := fun hne j g hj hjg => by
      rcases Nat.lt_succ_iff_lt_or_eq.1 hj with hj | rfl
      · exact hA j g hj hjg
      · rw [hx] at hjg; cases hjg; exact hne
    by_cases e1 : f.k = x.k
    · by_cases e2 : f.a = x.a
      · by_cases e3 : f.p = x.p
        · by_cases e4 : f.s = x.s
          · by_cases e5 : f.t = x.t
            · simp -implicitDefEqProofs only [slices_Index_pgantryapiStep_b0, go_sem, ↓reduceIte, reduceCtorEq, Int.reduceLT, Int.reduceLE, Int.reduceToNat, Nat.reduceAdd, Nat.reduceMul, Nat.reduceLeDiff, Nat.reduceLT, Nat.reduceSub, Int.reduceNeg, Int.reduceEq, Int.reduceBEq, Int.reduceBNe, Nat.reduceEqDiff, hi', hg, hw, e1, e2, e3, e4, e5]
              have hfx : x = f := by cases x; cases f; simp at e1 e2 e3 e4 e5; simp [e1, e2, e3, e4, e5]
              exact hP1 i ⟨fun _ => hfx ▸ List.mem_of_getElem? hx, fun _ => by omega⟩
            · simp -implicitDefEqProofs only [slices_Index_pgantryapiStep_b0, go_sem, ↓reduceIte, reduceCtorEq, Int.reduceLT, Int.reduceLE, Int.reduceToNat, Nat.reduceAdd, Nat.reduceMul, Nat.reduceLeDiff, Nat.reduceLT, Nat.reduceSub, Int.reduceNeg, Int.reduceEq, Int.reduceBEq, Int.reduceBNe, Nat.reduceEqDiff, hi', hg, hw, e1, e2, e3, e4, e5]
              exact next fun h => e5 (by rw [h])
          · simp -implicitDefEqProofs only [slices_Index_pgantryapiStep_b0, go_sem, ↓reduceIte, reduceCtorEq, Int.reduceLT, Int.reduceLE, Int.reduceToNat, Nat.reduceAdd, Nat.reduceMul, Nat.reduceLeDiff, Nat.reduceLT, Nat.reduceSub, Int.reduceNeg, Int.reduceEq, Int.reduceBEq, Int.reduceBNe, Nat.reduceEqDiff, hi', hg, hw, e1, e2, e3, e4]
            exact next fun h => e4 (by rw [h])
        · simp -implicitDefEqProofs only [slices_Index_pgantryapiStep_b0, go_sem, ↓reduceIte, reduceCtorEq, Int.reduceLT, Int.reduceLE, Int.reduceToNat, Nat.reduceAdd, Nat.reduceMul, Nat.reduceLeDiff, Nat.reduceLT, Nat.reduceSub, Int.reduceNeg, Int.reduceEq, Int.reduceBEq, Int.reduceBNe, Nat.reduceEqDiff, hi', hg, hw, e1, e2, e3]
          exact next fun h => e3 (by rw [h])
      · simp -implicitDefEqProofs only [slices_Index_pgantryapiStep_b0, go_sem, ↓reduceIte, reduceCtorEq, Int.reduceLT, Int.reduceLE, Int.reduceToNat, Nat.reduceAdd, Nat.reduceMul, Nat.reduceLeDiff, Nat.reduceLT, Nat.reduceSub, Int.reduceNeg, Int.reduceEq, Int.reduceBEq, Int.reduceBNe, Nat.reduceEqDiff, hi', hg, hw, e1, e2]
        exact next fun h => e2 (by rw [h])
    · simp -implicitDefEqProofs only [slices_Index_pgantryapiStep_b0, go_sem, ↓reduceIte, reduceCtorEq, Int.reduceLT, Int.reduceLE, Int.reduceToNat, Nat.reduceAdd, Nat.reduceMul, Nat.reduceLeDiff, Nat.reduceLT, Nat.reduceSub, Int.reduceNeg, Int.reduceEq, Int.reduceBEq, Int.reduceBNe, Nat.reduceEqDiff, hi', hg, hw, e1]
      exact next fun h => e1 (by rw [h])
  · rintro env h' ⟨rfl, hA, rfl⟩
    simp -implicitDefEqProofs only [slices_Index_pgantryapiStep_b0, go_sem, ↓reduceIte, reduceCtorEq, Int.reduceLT, Int.reduceLE, Int.reduceToNat, Nat.reduceAdd, Nat.reduceMul, Nat.reduceLeDiff, Nat.reduceLT, Nat.reduceSub, Int.reduceNeg, Int.reduceEq, Int.reduceBEq, Int.reduceBNe, Nat.reduceEqDiff, Int.lt_irrefl]
    refine hP1 (-1) ⟨fun h => absurd h (by decide), fun h => ?_⟩
    obtain ⟨j, hj⟩ := List.mem_iff_getElem?.1 h
    exact absurd rfl (hA j f (lt_of_getElem? hj) hj)
theorem ContainsSt_spec (l : List Stp) (f : Stp) (hl : l.length ≤ 100000) (lo : Nat) (h : VHeap) : callVL vp lo n_slices_Contains_pgantryapiStep [.list .s (l.map fS), .agg (fS f)] h = some (.bool (decide (f ∈ l)), h) := by
  refine call_valE (fn := slices_Contains_pgantryapiStep_v) rfl rfl rfl rfl rfl ?_ lo h
  obtain ⟨n, hn, hI⟩ := IndexSt_spec l f hl 0 [.cells true (fS f)]
  simp only [fS] at hI
  by_cases h0 : 0 ≤ n
  · simp -implicitDefEqProofs only [go_sem, ↓reduceIte, reduceCtorEq, Int.reduceLT, Int.reduceLE, Int.reduceToNat, Nat.reduceAdd, Nat.reduceMul, Nat.reduceLeDiff, Nat.reduceLT, Nat.reduceSub, Int.reduceNeg, Int.reduceEq, Int.reduceBEq, Int.reduceBNe, Nat.reduceEqDiff, fS, hI, h0, hn.1 h0]
  · have : ¬ f ∈ l := fun h => h0 (hn.2 h)
    simp -implicitDefEqProofs only [go_sem, ↓reduceIte, reduceCtorEq, Int.reduceLT, Int.reduceLE, Int.reduceToNat, Nat.reduceAdd, Nat.reduceMul, Nat.reduceLeDiff, Nat.reduceLT, Nat.reduceSub, Int.reduceNeg, Int.reduceEq, Int.reduceBEq, Int.reduceBNe, Nat.reduceEqDiff, fS, hI, h0, this]
theorem actCompare_spec (f g : Stp) (lo : Nat) (h : VHeap) : callVL vp lo n_act_Compare [.agg (fS f), .agg (fS g)] h = some (.int .i64 (cmpI (toS f) (toS g)), h) := by
  refine call_valE (fn := act_Compare_v) rfl rfl rfl rfl rfl ?_ lo h
  have hS := sCompare_spec (toS f) (toS g) (by simp [toS])
  simp only [List.map_cons, List.map_nil, fJ, toS] at hS
  simp -implicitDefEqProofs only [go_sem, ↓reduceIte, reduceCtorEq, Int.reduceLT, Int.reduceLE, Int.reduceToNat, Nat.reduceAdd, Nat.reduceMul, Nat.reduceLeDiff, Nat.reduceLT, Nat.reduceSub, Int.reduceNeg, Int.reduceEq, Int.reduceBEq, Int.reduceBNe, Nat.reduceEqDiff, fS, toS, hS]
def sortedS (l : List Stp) : Prop := ∀ (i : Nat) (f g : Stp), l[i]? = some f → l[i + 1]? = some g → ¬ cmpI (toS g) (toS f) < 0
theorem IsSorted_spec {A : List Stp} (hA : A.length ≤ 1000) (hS : sortedS A) (lo : Nat) (h : VHeap) : callVL vp lo n_slices_IsSortedFunc_pgantryapiStep [.list .s (A.map fS), .func n_act_Compare []] h = some (.bool true, h) := by
  refine call_valE (fn := slices_IsSortedFunc_pgantryapiStep_v) rfl rfl rfl rfl rfl ?_ lo h
  obtain ⟨P, hP⟩ : ∃ P : VV → Prop, P = fun w : VV => w = .bool true := ⟨_, rfl⟩
  have hP1 : P (.bool true) := by subst hP; rfl
  have hP2 : (fun r : VV × VHeap => r.1 = .bool true) = fun r => P r.1 := by subst hP; rfl
  rw [hP2]
  clear hP hP2
  have hw0 : IntKind.i64.wrap ((A.length : Int) - 1) = (A.length : Int) - 1 := wrap_id (by omega) (by omega)
  simp -implicitDefEqProofs only [go_sem, ↓reduceIte, reduceCtorEq, Int.reduceLT, Int.reduceLE, Int.reduceToNat, Nat.reduceAdd, Nat.reduceMul, Nat.reduceLeDiff, Nat.reduceLT, Nat.reduceSub, Int.reduceNeg, Int.reduceEq, Int.reduceBEq, Int.reduceBNe, Nat.reduceEqDiff, hw0]
  rw [Sat_bind]
  refine loop_down (I := fun i env h' => h' = [] ∧ i ≤ A.length ∧ (i = 0 → A.length = 0) ∧ env = [.list .s (A.map fS), .func n_act_Compare [], .undef, .undef, .undef, .int .i64 ((i : Int) - 1), .undef, .undef, .undef, .undef, .undef, .undef, .undef, .undef, .undef, .undef, .undef, .undef, .undef, .undef, .undef, .undef, .undef, .undef, .undef]) ?_ (i := A.length) ⟨rfl, Nat.le_refl _, fun h => h, by simp -implicitDefEqProofs only [go_sem, ↓reduceIte, reduceCtorEq, Int.reduceLT, Int.reduceLE, Int.reduceToNat, Nat.reduceAdd, Nat.reduceMul, Nat.reduceLeDiff, Nat.reduceLT, Nat.reduceSub, Int.reduceNeg, Int.reduceEq, Int.reduceBEq, Int.reduceBNe, Nat.reduceEqDiff]⟩
  rintro i env h' ⟨rfl, hi, hi0, rfl⟩
  by_cases h2 : 0 < (i : Int) - 1
  · obtain ⟨i, rfl⟩ : ∃ k, i = k + 2 := ⟨i - 2, by omega⟩
    obtain ⟨f, hf⟩ := get_some (xs := A) (i := i) (by omega)
    obtain ⟨g, hg⟩ := get_some (xs := A) (i := i + 1) (by omega)
    have hff := get_map (F := fS) hf
    have hgg := get_map (F := fS) hg
    have hC := actCompare_spec g f
    have hns := hS i f g hf hg
    simp only [fS] at hff hgg hC
    have e1 : ((i + 2 : Nat) : Int) - 1 = ((i + 1 : Nat) : Int) := by omega
    have e2 : IntKind.i64.wrap (((i + 1 : Nat) : Int) - 1) = ((i : Nat) : Int) := by rw [wrap_id (by omega) (by omega)]; omega
    have e3 : (0 : Int) < ((i + 1 : Nat) : Int) := by omega
    rw [e1]
    simp -implicitDefEqProofs only [slices_IsSortedFunc_pgantryapiStep_b0, go_sem, ↓reduceIte, reduceCtorEq, Int.reduceLT, Int.reduceLE, Int.reduceToNat, Nat.reduceAdd, Nat.reduceMul, Nat.reduceLeDiff, Nat.reduceLT, Nat.reduceSub, Int.reduceNeg, Int.reduceEq, Int.reduceBEq, Int.reduceBNe, Nat.reduceEqDiff, e3, e2, hff, hgg, hC, hns]
    exact ⟨i + 1, by omega, by omega, fun h => by omega, by rw [show ((i + 1 : Nat) : Int) - 1 = (i : Nat) by omega]⟩
  · simp -implicitDefEqProofs only [slices_IsSortedFunc_pgantryapiStep_b0, go_sem, ↓reduceIte, reduceCtorEq, Int.reduceLT, Int.reduceLE, Int.reduceToNat, Nat.reduceAdd, Nat.reduceMul, Nat.reduceLeDiff, Nat.reduceLT, Nat.reduceSub, Int.reduceNeg, Int.reduceEq, Int.reduceBEq, Int.reduceBNe, Nat.reduceEqDiff, h2]
    exact hP1
theorem cmpI_tr : ∀ a b c : List Int, ¬ cmpI b a < 0 → ¬ cmpI c b < 0 → ¬ cmpI c a < 0
  | [], _, [], _, _ => by simp [cmpI]
  | [], _, _ :: _, _, _ => by simp [cmpI]
  | x :: a, [], _, h, _ => by simp [cmpI] at h
  | x :: a, y :: b, [], _, h => by simp [cmpI] at h
  | x :: a, y :: b, z :: c, h1, h2 => by
    have ih := cmpI_tr a b c
    simp only [cmpI] at h1 h2 ⊢
    by_cases e1 : y < x
    · rw [if_pos e1] at h1; exact absurd (by decide) h1
    · rw [if_neg e1] at h1
      by_cases e2 : z < y
      · rw [if_pos e2] at h2; exact absurd (by decide) h2
      · rw [if_neg e2] at h2
        rw [if_neg (by omega)]
        by_cases e3 : x < z
        · rw [if_pos e3]; decide
        · rw [if_neg e3]
          rw [if_neg (by omega)] at h1
          rw [if_neg (by omega)] at h2
          exact ih h1 h2
theorem cmpI_tot : ∀ a b : List Int, ¬ cmpI b a < 0 ∨ ¬ cmpI a b < 0
  | [], [] => by simp [cmpI]
  | [], _ :: _ => by simp [cmpI]
  | _ :: _, [] => by simp [cmpI]
  | x :: a, y :: b => by
    have ih := cmpI_tot a b
    simp only [cmpI]
    by_cases e1 : y < x
    · rw [if_pos e1, if_neg (by omega)]; simp
      rw [if_pos e1]; decide
    · rw [if_neg e1]
      by_cases e2 : x < y
      · rw [if_pos e2]; simp
      · rw [if_neg e2, if_neg e2, if_neg e1]; exact ih
theorem sortS_sorted (l : List Stp) : sortedS (sortS l) := by
  have hp : (sortI (l.map toS)).Pairwise fun x y => (!decide (cmpI y x < 0)) = true := by
    unfold sortI
    refine List.pairwise_mergeSort (fun a b c h1 h2 => ?_) (fun a b => ?_) _
    · simp only [Bool.not_eq_true', decide_eq_false_iff_not] at h1 h2 ⊢
      exact cmpI_tr a b c h1 h2
    · simp only [Bool.or_eq_true, Bool.not_eq_true', decide_eq_false_iff_not]
      exact cmpI_tot a b
  intro i f g hf hg
  have h1 := sortS_toS l
  have hf' : (sortI (l.map toS))[i]? = some (toS f) := by rw [← h1, List.getElem?_map, hf]; rfl
  have hg' : (sortI (l.map toS))[i + 1]? = some (toS g) := by rw [← h1, List.getElem?_map, hg]; rfl
  have hlt := lt_of_getElem? hg'
  have := List.pairwise_iff_getElem.1 hp i (i + 1) (by omega) hlt (Nat.lt_succ_self i)
  rw [(List.getElem?_eq_some_iff.1 hf').2, (List.getElem?_eq_some_iff.1 hg').2] at this
  simpa using this
end Vg.G3
