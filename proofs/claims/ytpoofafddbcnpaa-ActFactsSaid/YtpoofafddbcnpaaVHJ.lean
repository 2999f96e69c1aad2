import Derived.Test.YtpoofafddbcnpaaVHI
import Derived.Test.YtpoofafddbcnpaaVK4
namespace Vg.G3
open Go Lg
set_option linter.unusedSimpArgs false
set_option linter.unusedVariables false
set_option maxRecDepth 10000
set_option maxHeartbeats 4000000
attribute [local congr] bind_congr1
attribute [local go_sem] gantkeep4_pick_r0 gantkeep4_pick_r1 gantkeep4_pick_r2 gantkeep4_pick_r3 gantkeep4_pick_f gantkeep4_pick_v gantkeep4_ActFacts_r0 gantkeep4_ActFacts_r1 gantkeep4_ActFacts_r2 gantkeep4_ActFacts_r3 gantkeep4_ActFacts_r4 gantkeep4_ActFacts_r5 gantkeep4_ActFacts_r6 gantkeep4_ActFacts_r6_d gantkeep4_ActFacts_r7 gantkeep4_ActFacts_r8 gantkeep4_ActFacts_r9 gantkeep4_ActFacts_r10 gantkeep4_ActFacts_r11 gantkeep4_ActFacts_r12 gantkeep4_ActFacts_r13 gantkeep4_ActFacts_r14 gantkeep4_ActFacts_r15 gantkeep4_ActFacts_r16 gantkeep4_ActFacts_r17 gantkeep4_ActFacts_f gantkeep4_ActFacts_v slices_Concat_gantryfactFact_f slices_Concat_gantryfactFact_v
def zeroS : Stp := ⟨0, 0, 0, 0, 0⟩
theorem pick_spec (l : List Stp) (x : Int) (hl : l.length ≤ 1000) : ∃ st : Stp, (l = [] ∧ st = zeroS ∨ st ∈ l) ∧ ∀ lo h, callVL vp lo n_gantkeep4_pick [.list .s (l.map fS), .int .i64 x] h = some (.agg (fS st), h) := by
  by_cases h0 : l = []
  · refine ⟨zeroS, .inl ⟨h0, rfl⟩, fun lo h => call_valE (fn := gantkeep4_pick_v) rfl rfl rfl rfl rfl ?_ lo h⟩
    subst h0
    simp -implicitDefEqProofs only [go_sem, ↓reduceIte, reduceCtorEq, Int.reduceLT, Int.reduceLE, Int.reduceToNat, Nat.reduceAdd, Nat.reduceMul, Nat.reduceLeDiff, Nat.reduceLT, Nat.reduceSub, Int.reduceNeg, Int.reduceEq, Int.reduceBEq, Int.reduceBNe, Nat.reduceEqDiff, zeroS, fS]
  · have hpos : 0 < l.length := List.length_pos_iff.2 h0
    have hb := belowP_bnd x l.length (by omega) (by omega)
    obtain ⟨st, hst⟩ := get_some (xs := l) (i := (belowP x l.length).toNat) (by omega)
    refine ⟨st, .inr (List.mem_of_getElem? hst), fun lo h => call_valE (fn := gantkeep4_pick_v) rfl rfl rfl rfl rfl ?_ lo h⟩
    have hB := Below_spec x l.length (by omega)
    have hg := get_map (F := fS) hst
    have h1 : ¬ ((l.length : Int) = 0) := by omega
    simp only [fS] at hg
    simp -implicitDefEqProofs only [go_sem, ↓reduceIte, reduceCtorEq, Int.reduceLT, Int.reduceLE, Int.reduceToNat, Nat.reduceAdd, Nat.reduceMul, Nat.reduceLeDiff, Nat.reduceLT, Nat.reduceSub, Int.reduceNeg, Int.reduceEq, Int.reduceBEq, Int.reduceBNe, Nat.reduceEqDiff, h1, hB, hb, hg, fS]
theorem eq5 (x y : Stp) : eqL [.i, .i, .i, .i, .i] [.int .i64 x.k, .int .i64 x.a, .int .i64 x.p, .int .i64 x.s, .int .i64 x.t] [.int .i64 y.k, .int .i64 y.a, .int .i64 y.p, .int .i64 y.s, .int .i64 y.t] = some (decide (x = y)) := by
  obtain ⟨k, a, p, q, t⟩ := x
  obtain ⟨k', a', p', q', t'⟩ := y
  simp only [eqL, if_true, int_beq]
  by_cases h1 : k = k' <;> by_cases h2 : a = a' <;> by_cases h3 : p = p' <;> by_cases h4 : q = q' <;> by_cases h5 : t = t' <;> simp [h1, h2, h3, h4, h5]
theorem eq5z (x : Stp) : eqL [.i, .i, .i, .i, .i] [.int .i64 x.k, .int .i64 x.a, .int .i64 x.p, .int .i64 x.s, .int .i64 x.t] [.int .i64 0, .int .i64 0, .int .i64 0, .int .i64 0, .int .i64 0] = some (decide (x = zeroS)) := eq5 x zeroS
theorem zero_no (w : Wd) : ¬ canF w zeroS := fun h => by have := h.1; revert this; decide
theorem ActFacts_law (raw l : List Int) (x : Int) : callVL vp 0 n_gantkeep4_ActFacts [.list .s (raw.map fun x => [.int .i64 x]), .list .s (l.map fun x => [.int .i64 x]), .int .i64 x] [] = some (.bool true, []) := by
  refine call_valE (fn := gantkeep4_ActFacts_v) rfl rfl rfl rfl rfl ?_ 0 []
  obtain ⟨a, p, s, ha1, ha2, hp1, hp2, hs1, hs2, hSm⟩ := Small_spec raw
  obtain ⟨w, hw, hsl, hpl, hsp, hW⟩ := World_spec a p s ha1 ha2 hp1 hp2 hs1 hs2 l
  have hsn := hw.sn
  have hSt := Steps_spec hw (by omega) (by omega)
  have hA := acted_spec
  have hlen := steps_len w hw.toSmall
  obtain ⟨st, hst, hPk⟩ := pick_spec (stepsF w) x hlen
  have hz := eq5z st
  simp only [eqL, if_true, int_beq, decide_eq_true_eq] at hz
  obtain ⟨P, hP⟩ : ∃ P : VV → Prop, P = fun v : VV => v = .bool true := ⟨_, rfl⟩
  have hP1 : P (.bool true) := by subst hP; rfl
  have hP2 : (fun r : VV × VHeap => r.1 = .bool true) = fun r => P r.1 := by subst hP; rfl
  rw [hP2]
  clear hP hP2
  simp only [fW, smallV] at hW hSt hSm
  simp only [fS] at hPk
  by_cases h0 : st = zeroS
  · rw [decide_eq_true h0] at hz
    simp -implicitDefEqProofs only [go_sem, ↓reduceIte, reduceCtorEq, Int.reduceLT, Int.reduceLE, Int.reduceToNat, Nat.reduceAdd, Nat.reduceMul, Nat.reduceLeDiff, Nat.reduceLT, Nat.reduceSub, Int.reduceNeg, Int.reduceEq, Int.reduceBEq, Int.reduceBNe, Nat.reduceEqDiff, hSm, hW, hA, hSt, hPk, hz]
    exact hP1
  rw [decide_eq_false h0] at hz
  have hmem : st ∈ stepsF w := hst.resolve_left fun h => h0 h.2
  have hm := (steps_mem hw st).1 hmem
  have hk0 : 0 ≤ st.k := by
    have := hm.1.1
    unfold formF at this
    split at this
    · cases this
    · rcases (show st.k < 0 ∨ 0 ≤ st.k by omega) with h | h
      · rw [if_neg (by omega), if_neg (by omega), if_neg (by omega), if_neg (by omega)] at this; cases this
      · exact h
  have hD := Do_yes hw (by omega) (by omega) st hm.1
  have hw2 := ok_do hw hm.1
  obtain ⟨L, M, hL3, hM3, hdiff, harm, f0, hf0v, hf0, hf0n⟩ := diff_do hw hm.1 ⟨hk0, hm.2⟩
  generalize doF w st = w2 at *
  have hs1' := hw.toSmall
  have hs2' := hw2.toSmall
  have hlA := facts_len hw
  have hlB := facts_len hw2
  have hF1 := Facts_spec1 hw
  have hF2 := Facts_spec1 hw2
  have hM1 := Minus_spec (factsF w) (factsF w2) (by omega) (by omega)
  have hM2 := Minus_spec (factsF w2) (factsF w) (by omega) (by omega)
  have e1 : ofF ((factsF w).filter fun f => !decide (f ∈ factsF w2)) = lessF w w2 := rfl
  have e2 : ofF ((factsF w2).filter fun f => !decide (f ∈ factsF w)) = lessF w2 w := rfl
  rw [e1] at hM1
  rw [e2] at hM2
  have hl1 := Nat.le_trans (less_len hs1' hs2' hdiff.less) hL3
  have hl2 := Nat.le_trans (less_len hs2' hs1' hdiff.more) hM3
  have hAp := Apply_spec (factsF w) (lessF w w2) (lessF w2 w) (by omega) (by omega) (by omega)
  have e3 := apply_less hs1' hs2'
  rw [e3] at hAp
  have hEq := Equal_spec (factsF w2) (factsF w2) (by omega) (by omega)
  rw [decide_eq_true rfl] at hEq
  have hpos : 0 < (lessF w2 w).length := List.length_pos_of_mem ((less_mem hs2' hs1' f0).2 ⟨⟨hf0, hf0n⟩, hf0v⟩)
  have hsum : IntKind.i64.wrap (((lessF w w2).length : Int) + ((lessF w2 w).length : Int)) = ((lessF w w2).length : Int) + ((lessF w2 w).length : Int) := wrap_id (by omega) (by omega)
  have hsum0 : ¬ ((lessF w w2).length : Int) + ((lessF w2 w).length : Int) = 0 := by omega
  have hall : ∀ f ∈ lessF w w2 ++ lessF w2 w, f.k = 2 ∨ f.k = 3 ∨ f.k = 6 → f.a = st.a := by
    intro f hf
    refine harm f ?_
    rcases List.mem_append.1 hf with h | h
    · have := (less_mem hs1' hs2' f).1 h; exact .inl (hdiff.less f this.1.1 this.1.2)
    · have := (less_mem hs2' hs1' f).1 h; exact .inr (hdiff.more f this.1.1 this.1.2)
  have hl1' : ((lessF w w2).length : Int) ≤ 3 := by omega
  have hl2' : ((lessF w2 w).length : Int) ≤ 3 := by omega
  have hr : ((lessF w w2).length + (lessF w2 w).length + 512) * 24 ≤ 140737488355328 := by omega
  have hal1 := all_len fF_len (lessF w w2)
  have hal2 := all_len fF_len (lessF w2 w)
  have hC : ∀ h, callVL vp 0 n_slices_Concat_gantryfactFact [.list .s [[.list .s ((lessF w w2).map fF)], [.list .s ((lessF w2 w).map fF)]]] h = some (.list .s ((lessF w w2 ++ lessF w2 w).map fF), h) := by
    intro h
    refine call_valE (fn := slices_Concat_gantryfactFact_v) rfl rfl rfl rfl rfl ?_ 0 h
    simp -implicitDefEqProofs only [go_sem, ↓reduceIte, reduceCtorEq, Int.reduceLT, Int.reduceLE, Int.reduceToNat, Nat.reduceAdd, Nat.reduceMul, Nat.reduceLeDiff, Nat.reduceLT, Nat.reduceSub, Int.reduceNeg, Int.reduceEq, Int.reduceBEq, Int.reduceBNe, Nat.reduceEqDiff, G3d.concatF, hal1, hal2, hr, List.map_append]
  have hlD : (lessF w w2 ++ lessF w2 w).length ≤ 6 := by rw [List.length_append]; omega
  clear hal1 hal2 hr hst hmem e1 e2 e3 harm hdiff
  simp only [fW, fS] at hD hF1 hF2
  simp -implicitDefEqProofs only [go_sem, ↓reduceIte, reduceCtorEq, Int.reduceLT, Int.reduceLE, Int.reduceToNat, Nat.reduceAdd, Nat.reduceMul, Nat.reduceLeDiff, Nat.reduceLT, Nat.reduceSub, Int.reduceNeg, Int.reduceEq, Int.reduceBEq, Int.reduceBNe, Nat.reduceEqDiff, hSm, hW, hA, hSt, hPk, hz, hD, hF1, hF2, hM1, hM2, hAp, hEq, hsum, hsum0, hC]
  generalize lessF w w2 ++ lessF w2 w = D at *
  rw [Sat_bind]
  refine loop_up (I := fun i env h' => h' = [.cells true (fW w), .cells true (fS st), .cells true (fW w2)] ∧ env = (VV.undef :: VV.undef :: VV.undef :: VV.undef :: VV.undef :: VV.undef :: VV.undef :: VV.undef :: (.ptr 1 0 : VV) :: VV.undef :: VV.undef :: VV.undef :: VV.undef :: (.list .s ((lessF w w2).map fF) : VV) :: (.list .s ((lessF w2 w).map fF) : VV) :: VV.undef :: VV.undef :: VV.undef :: VV.undef :: VV.undef :: VV.undef :: VV.undef :: VV.undef :: VV.undef :: VV.undef :: VV.undef :: VV.undef :: VV.undef :: VV.undef :: VV.undef :: VV.undef :: VV.undef :: VV.undef :: VV.undef :: VV.undef :: VV.undef :: VV.undef :: VV.undef :: VV.undef :: VV.undef :: VV.undef :: VV.undef :: VV.undef :: VV.undef :: VV.undef :: VV.undef :: VV.undef :: VV.undef :: VV.undef :: VV.undef :: VV.undef :: VV.undef :: VV.undef :: VV.undef :: VV.undef :: VV.undef :: VV.undef :: VV.undef :: VV.undef :: VV.undef :: VV.undef :: VV.undef :: VV.undef :: VV.undef :: VV.undef :: VV.undef :: VV.undef :: VV.undef :: VV.undef :: VV.undef :: VV.undef :: VV.undef :: (.list .s (D.map fF) : VV) :: (.int .i64 ((D.length : Nat) : Int) : VV) :: (.int .i64 ((i : Nat) : Int) : VV) :: VV.undef :: VV.undef :: VV.undef :: VV.undef :: VV.undef :: VV.undef :: VV.undef :: VV.undef :: VV.undef :: VV.undef :: VV.undef :: VV.undef :: VV.undef :: VV.undef :: VV.undef :: VV.undef :: VV.undef :: VV.undef :: VV.undef :: VV.undef :: VV.undef :: VV.undef :: VV.undef :: VV.undef :: VV.undef :: VV.undef :: VV.undef :: VV.undef :: VV.undef :: VV.undef :: VV.undef :: VV.undef :: VV.undef :: [])) D.length ?_ ?_ (Nat.zero_le _) ⟨by simp only [fW, fS], by simp -implicitDefEqProofs only [go_sem, ↓reduceIte, reduceCtorEq, Int.reduceLT, Int.reduceLE, Int.reduceToNat, Nat.reduceAdd, Nat.reduceMul, Nat.reduceLeDiff, Nat.reduceLT, Nat.reduceSub, Int.reduceNeg, Int.reduceEq, Int.reduceBEq, Int.reduceBNe, Nat.reduceEqDiff]⟩
  · rintro i env h' hi ⟨rfl, rfl⟩
    obtain ⟨f, hf⟩ := get_some hi
    have hi' : (i : Int) < (D.length : Int) := by omega
    have hwr := wrap_succ (i := i) (by omega)
    have hg := get_map (F := fF) hf
    have harm := hall f (List.mem_of_getElem? hf)
    simp only [fF] at hg
    by_cases k2 : f.k = 2
    · have := harm (.inl k2)
      rw [k2, this] at hg
      simp -implicitDefEqProofs only [gantkeep4_ActFacts_b0, go_sem, ↓reduceIte, reduceCtorEq, Int.reduceLT, Int.reduceLE, Int.reduceToNat, Nat.reduceAdd, Nat.reduceMul, Nat.reduceLeDiff, Nat.reduceLT, Nat.reduceSub, Int.reduceNeg, Int.reduceEq, Int.reduceBEq, Int.reduceBNe, Nat.reduceEqDiff, fS, hi', hg, hwr]
    by_cases k3 : f.k = 3
    · have := harm (.inr (.inl k3))
      rw [k3, this] at hg
      simp -implicitDefEqProofs only [gantkeep4_ActFacts_b0, go_sem, ↓reduceIte, reduceCtorEq, Int.reduceLT, Int.reduceLE, Int.reduceToNat, Nat.reduceAdd, Nat.reduceMul, Nat.reduceLeDiff, Nat.reduceLT, Nat.reduceSub, Int.reduceNeg, Int.reduceEq, Int.reduceBEq, Int.reduceBNe, Nat.reduceEqDiff, fS, hi', hg, hwr]
    by_cases k6 : f.k = 6
    · have := harm (.inr (.inr k6))
      rw [k6, this] at hg
      simp -implicitDefEqProofs only [gantkeep4_ActFacts_b0, go_sem, ↓reduceIte, reduceCtorEq, Int.reduceLT, Int.reduceLE, Int.reduceToNat, Nat.reduceAdd, Nat.reduceMul, Nat.reduceLeDiff, Nat.reduceLT, Nat.reduceSub, Int.reduceNeg, Int.reduceEq, Int.reduceBEq, Int.reduceBNe, Nat.reduceEqDiff, fS, hi', hg, hwr]
    · simp -implicitDefEqProofs only [gantkeep4_ActFacts_b0, go_sem, ↓reduceIte, reduceCtorEq, Int.reduceLT, Int.reduceLE, Int.reduceToNat, Nat.reduceAdd, Nat.reduceMul, Nat.reduceLeDiff, Nat.reduceLT, Nat.reduceSub, Int.reduceNeg, Int.reduceEq, Int.reduceBEq, Int.reduceBNe, Nat.reduceEqDiff, fS, hi', hg, k2, k3, k6, hwr]
  · rintro env h' ⟨rfl, rfl⟩
    simp -implicitDefEqProofs only [gantkeep4_ActFacts_b0, go_sem, ↓reduceIte, reduceCtorEq, Int.reduceLT, Int.reduceLE, Int.reduceToNat, Nat.reduceAdd, Nat.reduceMul, Nat.reduceLeDiff, Nat.reduceLT, Nat.reduceSub, Int.reduceNeg, Int.reduceEq, Int.reduceBEq, Int.reduceBNe, Nat.reduceEqDiff, Int.lt_irrefl, hl1', hl2']
    exact hP1
end Vg.G3
