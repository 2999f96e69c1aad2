import Derived.Test.YtpoofafddbcnpaaVHG
import Derived.Test.YtpoofafddbcnpaaVK2
namespace Vg.G3
open Go Lg
set_option linter.unusedSimpArgs false
set_option linter.unusedVariables false
set_option maxRecDepth 10000
set_option maxHeartbeats 4000000
attribute [local congr] bind_congr1
attribute [local go_sem] gantkeep4_ActKeeps_r0 gantkeep4_ActKeeps_r1 gantkeep4_ActKeeps_r2 gantkeep4_ActKeeps_r3 gantkeep4_ActKeeps_r4 gantkeep4_ActKeeps_r5 gantkeep4_ActKeeps_r6 gantkeep4_ActKeeps_r7 gantkeep4_ActKeeps_r8 gantkeep4_ActKeeps_r9 gantkeep4_ActKeeps_r10 gantkeep4_ActKeeps_r11 gantkeep4_ActKeeps_f gantkeep4_ActKeeps_v
theorem do_len (w : Wd) (s : Stp) : (doF w s).pl.length = w.pl.length ∧ (doF w s).sn.length = w.sn.length ∧ (doF w s).sp.length = w.sp.length ∧ (doF w s).sl = w.sl := by
  unfold doF
  split
  · simp
  split
  · simp
  split
  · simp
  split <;> simp
theorem facts_len {w : Wd} (hw : Ok w) : (factsF w).length ≤ 100 := by
  have h1 := factP_len w w.pl.length
  have h2 := factS_len w w.sl.toNat
  have h3 := factA_len w w.sp.length
  have := hw.pl
  have := hw.sp
  have := hw.sl8
  have := hw.sl0
  refine Nat.le_trans (of_len _) ?_
  unfold factsL
  rw [List.length_append, List.length_append]; omega
theorem ActKeeps_law (raw l : List Int) : callVL vp 0 n_gantkeep4_ActKeeps [.list .s (raw.map fun x => [.int .i64 x]), .list .s (l.map fun x => [.int .i64 x])] [] = some (.bool true, []) := by
  refine call_valE (fn := gantkeep4_ActKeeps_v) rfl rfl rfl rfl rfl ?_ 0 []
  obtain ⟨a, p, s, ha1, ha2, hp1, hp2, hs1, hs2, hSm⟩ := Small_spec raw
  obtain ⟨w, hw, hsl, hpl, hsp, hW⟩ := World_spec a p s ha1 ha2 hp1 hp2 hs1 hs2 l
  have hsn := hw.sn
  have hSt := Steps_spec hw (by omega) (by omega)
  have hA := acted_spec
  obtain ⟨e, he, hC⟩ := Check_spec w (by omega) (by omega) (by omega)
  obtain rfl := he.2 hw
  have hF := Facts_spec1 hw
  have hS := Sound_spec (factsF w) (by have := facts_len hw; omega)
  rw [facts_sound hw] at hS
  have hlen := steps_len w hw.toSmall
  obtain ⟨P, hP⟩ : ∃ P : VV → Prop, P = fun v : VV => v = .bool true := ⟨_, rfl⟩
  have hP1 : P (.bool true) := by subst hP; rfl
  have hP2 : (fun r : VV × VHeap => r.1 = .bool true) = fun r => P r.1 := by subst hP; rfl
  rw [hP2]
  clear hP hP2
  simp only [fW, smallV] at hW hSt hC hSm hF
  simp -implicitDefEqProofs only [go_sem, ↓reduceIte, reduceCtorEq, Int.reduceLT, Int.reduceLE, Int.reduceToNat, Nat.reduceAdd, Nat.reduceMul, Nat.reduceLeDiff, Nat.reduceLT, Nat.reduceSub, Int.reduceNeg, Int.reduceEq, Int.reduceBEq, Int.reduceBNe, Nat.reduceEqDiff, hSm, hW, hA, hC, hF, hS, hSt]
  rw [Sat_bind]
  refine loop_up (I := fun i env h' => h' = [.cells true (fW w)] ∧ env = (VV.undef :: VV.undef :: VV.undef :: VV.undef :: VV.undef :: (.ptr 0 0 : VV) :: VV.undef :: VV.undef :: VV.undef :: VV.undef :: VV.undef :: VV.undef :: VV.undef :: VV.undef :: VV.undef :: VV.undef :: VV.undef :: VV.undef :: VV.undef :: VV.undef :: VV.undef :: VV.undef :: VV.undef :: VV.undef :: VV.undef :: VV.undef :: VV.undef :: VV.undef :: (.list .s ((stepsF w).map fS) : VV) :: (.int .i64 (((stepsF w).length : Nat) : Int) : VV) :: (.int .i64 ((i : Nat) : Int) : VV) :: VV.undef :: VV.undef :: VV.undef :: VV.undef :: VV.undef :: VV.undef :: VV.undef :: VV.undef :: VV.undef :: VV.undef :: VV.undef :: VV.undef :: VV.undef :: VV.undef :: VV.undef :: VV.undef :: VV.undef :: VV.undef :: VV.undef :: VV.undef :: VV.undef :: VV.undef :: VV.undef :: VV.undef :: VV.undef :: VV.undef :: VV.undef :: VV.undef :: VV.undef :: VV.undef :: VV.undef :: VV.undef :: VV.undef :: VV.undef :: [])) (stepsF w).length ?_ ?_ (Nat.zero_le _) ⟨by simp only [fW], by simp -implicitDefEqProofs only [go_sem, ↓reduceIte, reduceCtorEq, Int.reduceLT, Int.reduceLE, Int.reduceToNat, Nat.reduceAdd, Nat.reduceMul, Nat.reduceLeDiff, Nat.reduceLT, Nat.reduceSub, Int.reduceNeg, Int.reduceEq, Int.reduceBEq, Int.reduceBNe, Nat.reduceEqDiff]⟩
  · rintro i env h' hi ⟨rfl, rfl⟩
    obtain ⟨st, hst⟩ := get_some hi
    have hi' : (i : Int) < ((stepsF w).length : Int) := by omega
    have hwr := wrap_succ (i := i) (by omega)
    have hg := get_map (F := fS) hst
    have hm := (steps_mem hw st).1 (List.mem_of_getElem? hst)
    have hk0 : 0 ≤ st.k := by
      have := hm.1.1
      unfold formF at this
      split at this
      · cases this
      · rcases (show st.k < 0 ∨ 0 ≤ st.k by omega) with h | h
        · rw [if_neg (by omega), if_neg (by omega), if_neg (by omega), if_neg (by omega)] at this; cases this
        · exact h
    have hD := Do_yes hw (by omega) (by omega) st hm.1
    have hw2 := ok_do hw hm.1
    have hne := do_ne hw hm.1 ⟨hk0, hm.2⟩
    obtain ⟨q1, q2, q3, q4⟩ := do_len w st
    obtain ⟨e, he, hCan⟩ := Can_spec hw st
    obtain rfl := he.2 hm.1
    have hF2 := Facts_spec1 hw2
    have hS2 := Sound_spec (factsF (doF w st)) (by have := facts_len hw2; omega)
    rw [facts_sound hw2] at hS2
    have hSame := Same_spec w (doF w st) ⟨by omega, by omega, by omega⟩ ⟨by omega, by omega, by omega⟩
    rw [decide_eq_false hne] at hSame
    generalize doF w st = w2 at *
    obtain ⟨e, he, hC2⟩ := Check_spec w2 (by omega) (by omega) (by omega)
    obtain rfl := he.2 hw2
    simp only [fW, fS] at hg hD hCan hF2 hSame hC2
    simp -implicitDefEqProofs only [gantkeep4_ActKeeps_b0, go_sem, ↓reduceIte, reduceCtorEq, Int.reduceLT, Int.reduceLE, Int.reduceToNat, Nat.reduceAdd, Nat.reduceMul, Nat.reduceLeDiff, Nat.reduceLT, Nat.reduceSub, Int.reduceNeg, Int.reduceEq, Int.reduceBEq, Int.reduceBNe, Nat.reduceEqDiff, fW, hi', hg, hD, hCan, hC2, hF2, hS2, hSame, hwr]
  · rintro env h' ⟨rfl, rfl⟩
    simp -implicitDefEqProofs only [gantkeep4_ActKeeps_b0, go_sem, ↓reduceIte, reduceCtorEq, Int.reduceLT, Int.reduceLE, Int.reduceToNat, Nat.reduceAdd, Nat.reduceMul, Nat.reduceLeDiff, Nat.reduceLT, Nat.reduceSub, Int.reduceNeg, Int.reduceEq, Int.reduceBEq, Int.reduceBNe, Nat.reduceEqDiff, Int.lt_irrefl]
    exact hP1
end Vg.G3
