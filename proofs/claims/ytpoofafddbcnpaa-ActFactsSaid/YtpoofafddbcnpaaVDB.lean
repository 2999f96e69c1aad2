import Derived.Test.YtpoofafddbcnpaaVD9
import Derived.Test.YtpoofafddbcnpaaVDAa
import Derived.Test.YtpoofafddbcnpaaVD4
namespace Vg.G3
open Go Lg
set_option linter.unusedSimpArgs false
set_option maxRecDepth 10000
set_option maxHeartbeats 2000000
attribute [local congr] bind_congr1
attribute [local go_sem] gantkeep4_Facts_r0 gantkeep4_Facts_r1 gantkeep4_Facts_r2 gantkeep4_Facts_r3 gantkeep4_Facts_r4 gantkeep4_Facts_r5 gantkeep4_Facts_r6 gantkeep4_Facts_r7 gantkeep4_Facts_r8 gantkeep4_Facts_r9 gantkeep4_Facts_r10 gantkeep4_Facts_r11 gantkeep4_Facts_r12 gantkeep4_Facts_r13 gantkeep4_Facts_r14 gantkeep4_Facts_r15 gantkeep4_Facts_r16 gantkeep4_Facts_f gantkeep4_Facts_v

theorem Facts_spec (xs : List Int) : ∃ l : List Fa, l.length ≤ 9 ∧ ∀ lo h, callVL vp lo n_gantkeep4_Facts [.list .s (xs.map fun x => [.int .i64 x])] h = some (.list .s (l.map fF), h) := by
  obtain ⟨P, hP⟩ : ∃ P : VV → Prop, P = fun w : VV => ∃ l : List Fa, w = .list .s (l.map fF) ∧ l.length ≤ 9 := ⟨_, rfl⟩
  have key := call_val (p := vp) (f := n_gantkeep4_Facts) (fn := gantkeep4_Facts_v) (args := [.list .s (xs.map fun x => [.int .i64 x])]) (P := P) rfl rfl rfl rfl rfl ?_
  · obtain ⟨v, hv, hc⟩ := key; subst hP; obtain ⟨l, rfl, hA⟩ := hv; exact ⟨l, hA, hc⟩
  have hP1 : ∀ l : List Fa, l.length ≤ 9 → P (.list .s (l.map fF)) := fun l h1 => by subst hP; exact ⟨l, rfl, h1⟩
  clear hP
  have hN := next_in (Nat.le_refl 0)
  obtain ⟨n10, l10⟩ := nxt_bnd xs 9 (by omega) (by omega)
  simp -implicitDefEqProofs only [go_sem, ↓reduceIte, reduceCtorEq, Int.reduceLT, Int.reduceLE, Int.reduceToNat, Nat.reduceAdd, Nat.reduceMul, Nat.reduceLeDiff, Nat.reduceLT, Nat.reduceSub, Int.reduceNeg, Int.reduceEq, Int.reduceBEq, Int.reduceBNe, Nat.reduceEqDiff, hN]
  generalize (nxt xs 9).1 = n at *
  generalize (nxt xs 9).2 = ys0 at *
  rw [Sat_bind]
  refine loop_up (I := fun k env h => ∃ (zs : List Int) (l : List Fa), env = [.undef, .undef, .undef, .ptr 0 0, .list .o (l.map fF), .undef, .undef, .undef, .undef, .undef, .int .i64 n, .int .i64 k, .undef, .undef, .undef, .undef, .undef, .undef, .undef, .undef, .undef, .undef, .undef, .undef, .undef, .undef, .undef, .undef, .undef, .undef, .undef, .undef, .undef, .undef, .undef, .undef, .undef, .undef, .undef, .undef, .undef, .undef, .undef, .undef, .undef, .undef, .undef, .undef, .undef, .undef, .undef, .undef] ∧ h = [.cells true [.list .s (zs.map fun x => [.int .i64 x])]] ∧ l.length = k) n.toNat ?_ ?_ (Nat.zero_le _) ⟨ys0, [], by simp -implicitDefEqProofs only [go_sem, ↓reduceIte, reduceCtorEq, Int.reduceLT, Int.reduceLE, Int.reduceToNat, Nat.reduceAdd, Nat.reduceMul, Nat.reduceLeDiff, Nat.reduceLT, Nat.reduceSub, Int.reduceNeg, Int.reduceEq, Int.reduceBEq, Int.reduceBNe, Nat.reduceEqDiff], rfl, rfl⟩
  · rintro k env h hk ⟨zs, l, rfl, rfl, rfl⟩
    have hk' : (l.length : Int) < n := by omega
    have hw := wrap_succ (i := l.length) (by omega)
    have b1 := nxt_bnd zs 6 (by omega) (by omega)
    have hw1 : IntKind.i64.wrap (1 + (nxt zs 6).1) = 1 + (nxt zs 6).1 := wrap_id (by omega) (by omega)
    have hal := all_len fF_len l
    have hr : (l.length + 1 + 512) * 24 ≤ 140737488355328 := small_room (by omega) (by omega) (by omega)
    have app : ∀ f : Fa, (l ++ [f]).map fF = l.map fF ++ [[.int .i64 f.k, .int .i64 f.a, .int .i64 f.b]] := fun f => by rw [List.map_append]; rfl
    clear b1
    generalize hW : IntKind.i64.wrap (1 + (nxt zs 6).1) = W
    by_cases h1 : W = 1
    · subst h1
      simp -implicitDefEqProofs only [gantkeep4_Facts_b0, go_sem, ↓reduceIte, reduceCtorEq, Int.reduceLT, Int.reduceLE, Int.reduceToNat, Nat.reduceAdd, Nat.reduceMul, Nat.reduceLeDiff, Nat.reduceLT, Nat.reduceSub, Int.reduceNeg, Int.reduceEq, Int.reduceBEq, Int.reduceBNe, Nat.reduceEqDiff, hN, hk', hW, hal, hr, hw]
      exact ⟨_, l ++ [⟨1, _, _⟩], by rw [app], rfl, by simp⟩
    by_cases h2 : W = 2
    · subst h2
      simp -implicitDefEqProofs only [gantkeep4_Facts_b0, go_sem, ↓reduceIte, reduceCtorEq, Int.reduceLT, Int.reduceLE, Int.reduceToNat, Nat.reduceAdd, Nat.reduceMul, Nat.reduceLeDiff, Nat.reduceLT, Nat.reduceSub, Int.reduceNeg, Int.reduceEq, Int.reduceBEq, Int.reduceBNe, Nat.reduceEqDiff, hN, hk', hW, hal, hr, hw]
      exact ⟨_, l ++ [⟨2, _, _⟩], by rw [app], rfl, by simp⟩
    by_cases h6 : W = 6
    · subst h6
      simp -implicitDefEqProofs only [gantkeep4_Facts_b0, go_sem, ↓reduceIte, reduceCtorEq, Int.reduceLT, Int.reduceLE, Int.reduceToNat, Nat.reduceAdd, Nat.reduceMul, Nat.reduceLeDiff, Nat.reduceLT, Nat.reduceSub, Int.reduceNeg, Int.reduceEq, Int.reduceBEq, Int.reduceBNe, Nat.reduceEqDiff, hN, hk', hW, hal, hr, hw]
      exact ⟨_, l ++ [⟨6, _, _⟩], by rw [app], rfl, by simp⟩
    · simp -implicitDefEqProofs only [gantkeep4_Facts_b0, go_sem, ↓reduceIte, reduceCtorEq, Int.reduceLT, Int.reduceLE, Int.reduceToNat, Nat.reduceAdd, Nat.reduceMul, Nat.reduceLeDiff, Nat.reduceLT, Nat.reduceSub, Int.reduceNeg, Int.reduceEq, Int.reduceBEq, Int.reduceBNe, Nat.reduceEqDiff, hN, hk', hW, h1, h2, h6, hal, hr, hw]
      exact ⟨_, l ++ [⟨W, _, 0⟩], by rw [app], rfl, by simp⟩
  · rintro env h ⟨zs, l, rfl, rfl, hl⟩
    have hnn : ((n.toNat : Nat) : Int) = n := Int.toNat_of_nonneg n10
    simp -implicitDefEqProofs only [gantkeep4_Facts_b0, go_sem, ↓reduceIte, reduceCtorEq, Int.reduceLT, Int.reduceLE, Int.reduceToNat, Nat.reduceAdd, Nat.reduceMul, Nat.reduceLeDiff, Nat.reduceLT, Nat.reduceSub, Int.reduceNeg, Int.reduceEq, Int.reduceBEq, Int.reduceBNe, Nat.reduceEqDiff, hnn, Int.lt_irrefl]
    exact hP1 l (by omega)
end Vg.G3
namespace Vg.G3
open Go Lg
set_option linter.unusedSimpArgs false
set_option linter.unusedVariables false
set_option maxRecDepth 10000
set_option maxHeartbeats 2000000
attribute [local congr] bind_congr1
attribute [local go_sem] slices_Concat_gantryfactFact_f slices_Concat_gantryfactFact_v fact_Join_r0 fact_Join_r1 fact_Join_f fact_Join_v fact_Meet_r0 fact_Meet_r1 fact_Meet_r2 fact_Meet_r3 fact_Meet_r4 fact_Meet_r5 fact_Meet_r6 fact_Meet_r7 fact_Meet_r8 fact_Meet_f fact_Meet_v fact_Minus_r0 fact_Minus_r1 fact_Minus_r2 fact_Minus_r3 fact_Minus_r4 fact_Minus_r5 fact_Minus_r6 fact_Minus_r7 fact_Minus_r8 fact_Minus_f fact_Minus_v gantkeep4_facted_r0 gantkeep4_facted_r1 gantkeep4_facted_f gantkeep4_facted_v

theorem Join_spec (a b : List Fa) (hl : a.length + b.length ≤ 1000) (lo : Nat) (h : VHeap) : callVL vp lo n_fact_Join [.list .s (a.map fF), .list .s (b.map fF)] h = some (.list .s ((ofF (a ++ b)).map fF), h) := by
  refine call_valE (fn := fact_Join_v) rfl rfl rfl rfl rfl ?_ lo h
  have hO := Of_spec (a ++ b) (by rw [List.length_append]; exact hl) 0
  have hr : (a.length + b.length + 512) * 24 ≤ 140737488355328 := Nat.le_trans (Nat.mul_le_mul_right 24 (show a.length + b.length + 512 ≤ 2000 by omega)) (by decide)
  have ha := all_len fF_len a
  have hb := all_len fF_len b
  have hC : ∀ h, callVL vp 0 n_slices_Concat_gantryfactFact [.list .s [[.list .s (a.map fF)], [.list .s (b.map fF)]]] h = some (.list .s ((a ++ b).map fF), h) := by
    intro h
    refine call_valE (fn := slices_Concat_gantryfactFact_v) rfl rfl rfl rfl rfl ?_ 0 h
    simp -implicitDefEqProofs only [go_sem, ↓reduceIte, reduceCtorEq, Int.reduceLT, Int.reduceLE, Int.reduceToNat, Nat.reduceAdd, Nat.reduceMul, Nat.reduceLeDiff, Nat.reduceLT, Nat.reduceSub, Int.reduceNeg, Int.reduceEq, Int.reduceBEq, Int.reduceBNe, Nat.reduceEqDiff, G3d.concatF, ha, hb, hr, List.map_append]
  simp -implicitDefEqProofs only [go_sem, ↓reduceIte, reduceCtorEq, Int.reduceLT, Int.reduceLE, Int.reduceToNat, Nat.reduceAdd, Nat.reduceMul, Nat.reduceLeDiff, Nat.reduceLT, Nat.reduceSub, Int.reduceNeg, Int.reduceEq, Int.reduceBEq, Int.reduceBNe, Nat.reduceEqDiff, hC, hO]

theorem filter_snoc' {p : Fa → Bool} {l : List Fa} {i : Nat} {x : Fa} (h : l[i]? = some x) : (l.take (i + 1)).filter p = (l.take i).filter p ++ (if p x = true then [x] else []) := by
  rw [take_succ_map h, List.filter_append]
  congr 1
  by_cases hv : p x = true <;> simp [hv]
theorem Meet_spec (a b : List Fa) (ha : a.length ≤ 1000) (hb : b.length ≤ 1000) (lo : Nat) (h : VHeap) : callVL vp lo n_fact_Meet [.list .s (a.map fF), .list .s (b.map fF)] h = some (.list .s ((ofF (a.filter fun f => decide (f ∈ b))).map fF), h) := by
  refine call_valE (fn := fact_Meet_v) rfl rfl rfl rfl rfl ?_ lo h
  generalize hT : (ofF (a.filter fun f => decide (f ∈ b))).map fF = T
  obtain ⟨P, hP⟩ : ∃ P : VV → Prop, P = fun w : VV => w = .list .s T := ⟨_, rfl⟩
  have hP1 : P (.list .s T) := by subst hP; rfl
  have hP2 : (fun r : VV × VHeap => r.1 = .list .s T) = fun r => P r.1 := by subst hP; rfl
  rw [hP2]
  clear hP hP2
  simp -implicitDefEqProofs only [go_sem, ↓reduceIte, reduceCtorEq, Int.reduceLT, Int.reduceLE, Int.reduceToNat, Nat.reduceAdd, Nat.reduceMul, Nat.reduceLeDiff, Nat.reduceLT, Nat.reduceSub, Int.reduceNeg, Int.reduceEq, Int.reduceBEq, Int.reduceBNe, Nat.reduceEqDiff]
  rw [Sat_bind]
  refine loop_up (I := fun i env h => h = [] ∧ env = [.undef, .list .s (b.map fF), .undef, .undef, .undef, .list .o (((a.take i).filter fun f => decide (f ∈ b)).map fF), .undef, .undef, .list .s (a.map fF), .int .i64 ((a.length : Nat) : Int), .int .i64 ((i : Nat) : Int), .undef, .undef, .undef, .undef, .undef, .undef, .undef, .undef, .undef, .undef, .undef, .undef, .undef]) a.length ?_ ?_ (Nat.zero_le _) ⟨rfl, by simp -implicitDefEqProofs only [go_sem, ↓reduceIte, reduceCtorEq, Int.reduceLT, Int.reduceLE, Int.reduceToNat, Nat.reduceAdd, Nat.reduceMul, Nat.reduceLeDiff, Nat.reduceLT, Nat.reduceSub, Int.reduceNeg, Int.reduceEq, Int.reduceBEq, Int.reduceBNe, Nat.reduceEqDiff, List.filter_nil]⟩
  · rintro i env h hi ⟨rfl, rfl⟩
    obtain ⟨x, hx⟩ := get_some hi
    have hg := get_map (F := fF) hx
    have hi' : (i : Int) < (a.length : Int) := by omega
    have hw := wrap_succ (i := i) (by omega)
    have hH := Has_spec b x (by omega)
    have hfs := filter_snoc' (p := fun f => decide (f ∈ b)) hx
    have hlen : ((a.take i).filter fun f => decide (f ∈ b)).length ≤ 1000 := by
      refine Nat.le_trans (List.length_filter_le _ _) ?_
      rw [List.length_take]; omega
    have hal := all_len fF_len ((a.take i).filter fun f => decide (f ∈ b))
    have hr := small_room (n := ((a.take i).filter fun f => decide (f ∈ b)).length) (m := 1) (b := 24) (by omega) (by omega) (by omega)
    simp only [fF] at hg hH
    rw [hfs]
    generalize ((a.take i).filter fun f => decide (f ∈ b)) = acc at *
    by_cases hv : x ∈ b
    · simp -implicitDefEqProofs only [fact_Meet_b0, go_sem, ↓reduceIte, reduceCtorEq, Int.reduceLT, Int.reduceLE, Int.reduceToNat, Nat.reduceAdd, Nat.reduceMul, Nat.reduceLeDiff, Nat.reduceLT, Nat.reduceSub, Int.reduceNeg, Int.reduceEq, Int.reduceBEq, Int.reduceBNe, Nat.reduceEqDiff, hi', hg, hH, hv, hw, hal, hr, List.map_append, fF]
    · simp -implicitDefEqProofs only [fact_Meet_b0, go_sem, ↓reduceIte, reduceCtorEq, Int.reduceLT, Int.reduceLE, Int.reduceToNat, Nat.reduceAdd, Nat.reduceMul, Nat.reduceLeDiff, Nat.reduceLT, Nat.reduceSub, Int.reduceNeg, Int.reduceEq, Int.reduceBEq, Int.reduceBNe, Nat.reduceEqDiff, hi', hg, hH, hv, hw, hal, hr, List.map_append, fF]
  · rintro env h ⟨rfl, rfl⟩
    have hO := Of_spec (a.filter fun f => decide (f ∈ b)) (Nat.le_trans (List.length_filter_le _ _) ha) 0
    rw [hT] at hO
    rw [List.take_length]
    simp -implicitDefEqProofs only [fact_Meet_b0, go_sem, ↓reduceIte, reduceCtorEq, Int.reduceLT, Int.reduceLE, Int.reduceToNat, Nat.reduceAdd, Nat.reduceMul, Nat.reduceLeDiff, Nat.reduceLT, Nat.reduceSub, Int.reduceNeg, Int.reduceEq, Int.reduceBEq, Int.reduceBNe, Nat.reduceEqDiff, Int.lt_irrefl, hO]
    exact hP1
theorem Minus_spec (a b : List Fa) (ha : a.length ≤ 1000) (hb : b.length ≤ 1000) (lo : Nat) (h : VHeap) : callVL vp lo n_fact_Minus [.list .s (a.map fF), .list .s (b.map fF)] h = some (.list .s ((ofF (a.filter fun f => !decide (f ∈ b))).map fF), h) := by
  refine call_valE (fn := fact_Minus_v) rfl rfl rfl rfl rfl ?_ lo h
  generalize hT : (ofF (a.filter fun f => !decide (f ∈ b))).map fF = T
  obtain ⟨P, hP⟩ : ∃ P : VV → Prop, P = fun w : VV => w = .list .s T := ⟨_, rfl⟩
  have hP1 : P (.list .s T) := by subst hP; rfl
  have hP2 : (fun r : VV × VHeap => r.1 = .list .s T) = fun r => P r.1 := by subst hP; rfl
  rw [hP2]
  clear hP hP2
  simp -implicitDefEqProofs only [go_sem, ↓reduceIte, reduceCtorEq, Int.reduceLT, Int.reduceLE, Int.reduceToNat, Nat.reduceAdd, Nat.reduceMul, Nat.reduceLeDiff, Nat.reduceLT, Nat.reduceSub, Int.reduceNeg, Int.reduceEq, Int.reduceBEq, Int.reduceBNe, Nat.reduceEqDiff]
  rw [Sat_bind]
  refine loop_up (I := fun i env h => h = [] ∧ env = [.undef, .list .s (b.map fF), .undef, .undef, .undef, .list .o (((a.take i).filter fun f => !decide (f ∈ b)).map fF), .undef, .undef, .list .s (a.map fF), .int .i64 ((a.length : Nat) : Int), .int .i64 ((i : Nat) : Int), .undef, .undef, .undef, .undef, .undef, .undef, .undef, .undef, .undef, .undef, .undef, .undef, .undef, .undef]) a.length ?_ ?_ (Nat.zero_le _) ⟨rfl, by simp -implicitDefEqProofs only [go_sem, ↓reduceIte, reduceCtorEq, Int.reduceLT, Int.reduceLE, Int.reduceToNat, Nat.reduceAdd, Nat.reduceMul, Nat.reduceLeDiff, Nat.reduceLT, Nat.reduceSub, Int.reduceNeg, Int.reduceEq, Int.reduceBEq, Int.reduceBNe, Nat.reduceEqDiff, List.filter_nil]⟩
  · rintro i env h hi ⟨rfl, rfl⟩
    obtain ⟨x, hx⟩ := get_some hi
    have hg := get_map (F := fF) hx
    have hi' : (i : Int) < (a.length : Int) := by omega
    have hw := wrap_succ (i := i) (by omega)
    have hH := Has_spec b x (by omega)
    have hfs := filter_snoc' (p := fun f => !decide (f ∈ b)) hx
    have hlen : ((a.take i).filter fun f => !decide (f ∈ b)).length ≤ 1000 := by
      refine Nat.le_trans (List.length_filter_le _ _) ?_
      rw [List.length_take]; omega
    have hal := all_len fF_len ((a.take i).filter fun f => !decide (f ∈ b))
    have hr := small_room (n := ((a.take i).filter fun f => !decide (f ∈ b)).length) (m := 1) (b := 24) (by omega) (by omega) (by omega)
    simp only [fF] at hg hH
    rw [hfs]
    generalize ((a.take i).filter fun f => !decide (f ∈ b)) = acc at *
    by_cases hv : x ∈ b
    · simp -implicitDefEqProofs only [fact_Minus_b0, go_sem, ↓reduceIte, reduceCtorEq, Int.reduceLT, Int.reduceLE, Int.reduceToNat, Nat.reduceAdd, Nat.reduceMul, Nat.reduceLeDiff, Nat.reduceLT, Nat.reduceSub, Int.reduceNeg, Int.reduceEq, Int.reduceBEq, Int.reduceBNe, Nat.reduceEqDiff, hi', hg, hH, hv, hw, hal, hr, List.map_append, fF]
    · simp -implicitDefEqProofs only [fact_Minus_b0, go_sem, ↓reduceIte, reduceCtorEq, Int.reduceLT, Int.reduceLE, Int.reduceToNat, Nat.reduceAdd, Nat.reduceMul, Nat.reduceLeDiff, Nat.reduceLT, Nat.reduceSub, Int.reduceNeg, Int.reduceEq, Int.reduceBEq, Int.reduceBNe, Nat.reduceEqDiff, hi', hg, hH, hv, hw, hal, hr, List.map_append, fF]
  · rintro env h ⟨rfl, rfl⟩
    have hO := Of_spec (a.filter fun f => !decide (f ∈ b)) (Nat.le_trans (List.length_filter_le _ _) ha) 0
    rw [hT] at hO
    rw [List.take_length]
    simp -implicitDefEqProofs only [fact_Minus_b0, go_sem, ↓reduceIte, reduceCtorEq, Int.reduceLT, Int.reduceLE, Int.reduceToNat, Nat.reduceAdd, Nat.reduceMul, Nat.reduceLeDiff, Nat.reduceLT, Nat.reduceSub, Int.reduceNeg, Int.reduceEq, Int.reduceBEq, Int.reduceBNe, Nat.reduceEqDiff, Int.lt_irrefl, hO]
    exact hP1
theorem facted_spec (lo : Nat) (h : VHeap) : callVL vp lo n_gantkeep4_facted [] h = some (.bool true, h) := by
  refine call_valE (fn := gantkeep4_facted_v) rfl rfl rfl rfl rfl ?_ lo h
  have h1 := Clash_spec ⟨3, 0, 0⟩ ⟨2, 0, 1⟩
  have h2 := Has_spec [⟨5, 0, 0⟩] ⟨5, 0, 0⟩ (by decide)
  have e1 : clashF ⟨3, 0, 0⟩ ⟨2, 0, 1⟩ = true := by kernel_rfl
  rw [e1] at h1
  have e2 : decide ((⟨5, 0, 0⟩ : Fa) ∈ [(⟨5, 0, 0⟩ : Fa)]) = true := by simp
  rw [e2] at h2
  simp only [fF, List.map_cons, List.map_nil] at h1 h2
  simp -implicitDefEqProofs only [go_sem, ↓reduceIte, reduceCtorEq, Int.reduceLT, Int.reduceLE, Int.reduceToNat, Nat.reduceAdd, Nat.reduceMul, Nat.reduceLeDiff, Nat.reduceLT, Nat.reduceSub, Int.reduceNeg, Int.reduceEq, Int.reduceBEq, Int.reduceBNe, Nat.reduceEqDiff, h1, h2]
end Vg.G3
