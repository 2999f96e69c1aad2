import Derived.Test.YtpoofafddbcnpaaVH5
import Derived.Test.YtpoofafddbcnpaaVD9
import Derived.Test.YtpoofafddbcnpaaVDAa
namespace Vg.G3
open Go Lg
set_option linter.unusedSimpArgs false
set_option linter.unusedVariables false
set_option maxRecDepth 10000
set_option maxHeartbeats 4000000
attribute [local congr] bind_congr1
attribute [local go_sem] act_Facts_r0 act_Facts_r1 act_Facts_r2 act_Facts_r3 act_Facts_r4 act_Facts_r5 act_Facts_r6 act_Facts_r7 act_Facts_r8 act_Facts_r9 act_Facts_r10 act_Facts_r11 act_Facts_r12 act_Facts_r13 act_Facts_r14 act_Facts_r15 act_Facts_r16 act_Facts_r17 act_Facts_r18 act_Facts_r19 act_Facts_r20 act_Facts_r21 act_Facts_r22 act_Facts_r23 act_Facts_r24 act_Facts_r25 act_Facts_r26 act_Facts_r27 act_Facts_r28 act_Facts_f act_Facts_v
def atF (p : Int) (x : Int) : List Fa := if 0 ≤ x then [⟨1, p, x⟩] else if x < -1 then [⟨2, -2 - x, p⟩] else []
def seenF (p : Int) (b : Bool) : List Fa := if b then [⟨5, p, 0⟩] else []
def slotF (w : Wd) (s : Int) : List Fa := if inF w s < 0 then [⟨4, s, 0⟩] else []
def freeF (w : Wd) (a : Int) : List Fa := if holdsF w a < 0 then [⟨3, a, 0⟩] else []
def spotF (w : Wd) (a : Int) : List Fa := if gI w.sp a = -1 then [] else [⟨6, a, gI w.sp a⟩]
def factP (w : Wd) (n : Nat) : List Fa := (List.range n).flatMap fun (p : Nat) => atF p (gI w.pl p) ++ seenF p (gB w.sn p)
def factS (w : Wd) (n : Nat) : List Fa := (List.range n).flatMap fun (s : Nat) => slotF w s
def factA (w : Wd) (n : Nat) : List Fa := (List.range n).flatMap fun (a : Nat) => freeF w a ++ spotF w a
def factsL (w : Wd) : List Fa := factP w w.pl.length ++ factS w w.sl.toNat ++ factA w w.sp.length
def factsF (w : Wd) : List Fa := ofF (factsL w)
theorem fm_succ {α : Type} (F : Nat → List α) (n : Nat) : (List.range (n + 1)).flatMap F = (List.range n).flatMap F ++ F n := by rw [List.range_succ, List.flatMap_append]; simp
theorem fm_len {α : Type} (F : Nat → List α) (k : Nat) (hF : ∀ n, (F n).length ≤ k) (n : Nat) : ((List.range n).flatMap F).length ≤ n * k := by
  induction n with
  | zero => simp
  | succ n ih => rw [fm_succ, List.length_append, Nat.succ_mul]; have := hF n; omega
theorem at_len (p x : Int) : (atF p x).length ≤ 1 := by unfold atF; split <;> (try split) <;> simp
theorem seen_len (p : Int) (b : Bool) : (seenF p b).length ≤ 1 := by unfold seenF; split <;> simp
theorem slot_len (w : Wd) (s : Int) : (slotF w s).length ≤ 1 := by unfold slotF; split <;> simp
theorem free_len (w : Wd) (s : Int) : (freeF w s).length ≤ 1 := by unfold freeF; split <;> simp
theorem spot_len (w : Wd) (s : Int) : (spotF w s).length ≤ 1 := by unfold spotF; split <;> simp
theorem factP_len (w : Wd) (n : Nat) : (factP w n).length ≤ n * 2 := fm_len _ 2 (fun n => by rw [List.length_append]; have := at_len n (gI w.pl n); have := seen_len n (gB w.sn n); omega) n
theorem factS_len (w : Wd) (n : Nat) : (factS w n).length ≤ n * 1 := fm_len _ 1 (fun n => slot_len w n) n
theorem factA_len (w : Wd) (n : Nat) : (factA w n).length ≤ n * 2 := fm_len _ 2 (fun n => by rw [List.length_append]; have := free_len w n; have := spot_len w n; omega) n
theorem mapF_snoc (l : List Fa) (x : Fa) : (l ++ [x]).map fF = l.map fF ++ [[.int .i64 x.k, .int .i64 x.a, .int .i64 x.b]] := by rw [List.map_append]; rfl
theorem gB_map {w : Wd} {i : Nat} (hi : i < w.sn.length) : (w.sn.map fB)[i]? = some [.bool (gB w.sn i)] := by
  have := get_map (F := fB) (gB_get (l := w.sn) (i := i) (by omega) (by omega))
  rwa [Int.toNat_natCast] at this
theorem gI_map {l : List Int} {i : Nat} (hi : i < l.length) : (l.map fI)[i]? = some [.int .i64 (gI l i)] := by
  have := get_map (F := fI) (gI_get (l := l) (i := i) (by omega) (by omega))
  rwa [Int.toNat_natCast] at this
theorem F_room {n : Nat} (h : n ≤ 100) : (n + 1 + 512) * 24 ≤ 140737488355328 := by omega
theorem Facts_spec1 {w : Wd} (hw : Ok w) (lo : Nat) (h : VHeap) : callVL vp lo n_act_Facts [.agg (fW w)] h = some (.list .s ((factsF w).map fF), h) := by
  refine call_valE (fn := act_Facts_v) rfl rfl rfl rfl rfl ?_ lo h
  have hpl := hw.pl
  have hsp := hw.sp
  have hsn := hw.sn
  have hs0 := hw.sl0
  have hs8 := hw.sl8
  obtain ⟨e, he, hC⟩ := Check_spec w (by omega) (by omega) (by omega)
  obtain rfl := he.2 hw
  have hlP := factP_len w w.pl.length
  have hlS := factS_len w w.sl.toNat
  have hlA := factA_len w w.sp.length
  have hO := Of_spec (factsL w) (by unfold factsL; rw [List.length_append, List.length_append]; omega) 0
  generalize hT : (factsF w).map fF = T
  obtain ⟨P, hP⟩ : ∃ P : VV → Prop, P = fun v : VV => v = .list .s T := ⟨_, rfl⟩
  have hP1 : P (.list .s T) := by subst hP; rfl
  have hP2 : (fun r : VV × VHeap => r.1 = .list .s T) = fun r => P r.1 := by subst hP; rfl
  rw [hP2]
  clear hP hP2
  have hIn := fun s lo h => In_spec hw.toSmall s lo h
  have hHo := fun a lo h => Holds_spec hw.toSmall a lo h
  simp only [fW] at hC hIn hHo
  simp -implicitDefEqProofs only [go_sem, ↓reduceIte, reduceCtorEq, Int.reduceLT, Int.reduceLE, Int.reduceToNat, Nat.reduceAdd, Nat.reduceMul, Nat.reduceLeDiff, Nat.reduceLT, Nat.reduceSub, Int.reduceNeg, Int.reduceEq, Int.reduceBEq, Int.reduceBNe, Nat.reduceEqDiff, fW, hC]
  rw [Sat_bind]
  refine loop_up (I := fun i env h' => h' = [.cells true (fW w)] ∧ env = (VV.undef :: (.ptr 0 0 : VV) :: VV.undef :: (.list .o ((factP w i).map fF) : VV) :: VV.undef :: VV.undef :: VV.undef :: VV.undef :: VV.undef :: VV.undef :: VV.undef :: VV.undef :: VV.undef :: (.list .s (w.pl.map fI) : VV) :: (.int .i64 ((w.pl.length : Nat) : Int) : VV) :: (.int .i64 ((i : Nat) : Int) : VV) :: VV.undef :: VV.undef :: VV.undef :: VV.undef :: VV.undef :: VV.undef :: VV.undef :: VV.undef :: VV.undef :: VV.undef :: VV.undef :: VV.undef :: VV.undef :: VV.undef :: VV.undef :: VV.undef :: VV.undef :: VV.undef :: VV.undef :: VV.undef :: VV.undef :: VV.undef :: VV.undef :: VV.undef :: VV.undef :: VV.undef :: VV.undef :: VV.undef :: VV.undef :: VV.undef :: VV.undef :: VV.undef :: VV.undef :: VV.undef :: VV.undef :: VV.undef :: VV.undef :: VV.undef :: VV.undef :: VV.undef :: VV.undef :: VV.undef :: VV.undef :: VV.undef :: VV.undef :: VV.undef :: VV.undef :: VV.undef :: VV.undef :: VV.undef :: VV.undef :: VV.undef :: VV.undef :: VV.undef :: VV.undef :: VV.undef :: VV.undef :: VV.undef :: VV.undef :: VV.undef :: VV.undef :: VV.undef :: VV.undef :: VV.undef :: VV.undef :: VV.undef :: VV.undef :: VV.undef :: VV.undef :: VV.undef :: VV.undef :: VV.undef :: VV.undef :: VV.undef :: VV.undef :: VV.undef :: VV.undef :: [])) w.pl.length ?_ ?_ (Nat.zero_le _) ⟨by simp only [fW], by simp -implicitDefEqProofs only [go_sem, ↓reduceIte, reduceCtorEq, Int.reduceLT, Int.reduceLE, Int.reduceToNat, Nat.reduceAdd, Nat.reduceMul, Nat.reduceLeDiff, Nat.reduceLT, Nat.reduceSub, Int.reduceNeg, Int.reduceEq, Int.reduceBEq, Int.reduceBNe, Nat.reduceEqDiff, factP, List.range_zero, List.flatMap_nil]⟩
  · rintro i env h' hi ⟨rfl, rfl⟩
    have hi' : (i : Int) < (w.pl.length : Int) := by omega
    have hwr := wrap_succ (i := i) (by omega)
    have hg := gI_map hi
    have hgb := gB_map (w := w) (i := i) (by omega)
    have hb := (hw.p1 i (gI w.pl i) (by have := gI_get (l := w.pl) (i := i) (by omega) (by omega); rwa [Int.toNat_natCast] at this)).1
    have hlen := factP_len w i
    have e : factP w (i + 1) = factP w i ++ (atF i (gI w.pl i) ++ seenF i (gB w.sn i)) := fm_succ _ i
    rw [e]
    have hal := all_len fF_len (factP w i)
    have r1 := F_room (n := (factP w i).length) (by omega)
    have r2 := F_room (n := (factP w i).length + 1) (by omega)
    generalize factP w i = A at *
    generalize gI w.pl i = x at *
    generalize gB w.sn i = b at *
    have hal2 : ∀ y : Fa, (A.map fF ++ [[VV.int .i64 y.k, .int .i64 y.a, .int .i64 y.b]]).all (fun x => decide (x.length = 3)) = true := fun y => by rw [List.all_append, hal]; rfl
    by_cases c1 : 0 ≤ x
    · have a1 : atF i x = [⟨1, i, x⟩] := if_pos c1
      rw [a1]
      have hal2 := hal2 ⟨1, i, x⟩
      simp only at hal2
      cases b
      · simp only [seenF, Bool.false_eq_true, if_false, List.append_nil, mapF_snoc]
        simp -implicitDefEqProofs only [act_Facts_b0, act_Facts_b1, act_Facts_b2, go_sem, ↓reduceIte, reduceCtorEq, Int.reduceLT, Int.reduceLE, Int.reduceToNat, Nat.reduceAdd, Nat.reduceMul, Nat.reduceLeDiff, Nat.reduceLT, Nat.reduceSub, Int.reduceNeg, Int.reduceEq, Int.reduceBEq, Int.reduceBNe, Nat.reduceEqDiff, fW, hi', hg, hgb, c1, hal, r1, hwr]
      · simp only [seenF, if_true, ← List.append_assoc, mapF_snoc]
        simp -implicitDefEqProofs only [act_Facts_b0, act_Facts_b1, act_Facts_b2, go_sem, ↓reduceIte, reduceCtorEq, Int.reduceLT, Int.reduceLE, Int.reduceToNat, Nat.reduceAdd, Nat.reduceMul, Nat.reduceLeDiff, Nat.reduceLT, Nat.reduceSub, Int.reduceNeg, Int.reduceEq, Int.reduceBEq, Int.reduceBNe, Nat.reduceEqDiff, fW, hi', hg, hgb, c1, hal, r1, hal2, r2, hwr, List.length_append]
    · by_cases c2 : x < -1
      · have a1 : atF i x = [⟨2, -2 - x, i⟩] := by unfold atF; rw [if_neg c1, if_pos c2]
        rw [a1]
        have hal2 := hal2 ⟨2, -2 - x, i⟩
        simp only at hal2
        have w2 : IntKind.i64.wrap (-2 - x) = -2 - x := wrap_id (by omega) (by omega)
        cases b
        · simp only [seenF, Bool.false_eq_true, if_false, List.append_nil, mapF_snoc]
          simp -implicitDefEqProofs only [act_Facts_b0, act_Facts_b1, act_Facts_b2, go_sem, ↓reduceIte, reduceCtorEq, Int.reduceLT, Int.reduceLE, Int.reduceToNat, Nat.reduceAdd, Nat.reduceMul, Nat.reduceLeDiff, Nat.reduceLT, Nat.reduceSub, Int.reduceNeg, Int.reduceEq, Int.reduceBEq, Int.reduceBNe, Nat.reduceEqDiff, fW, hi', hg, hgb, c1, c2, w2, hal, r1, hwr]
        · simp only [seenF, if_true, ← List.append_assoc, mapF_snoc]
          simp -implicitDefEqProofs only [act_Facts_b0, act_Facts_b1, act_Facts_b2, go_sem, ↓reduceIte, reduceCtorEq, Int.reduceLT, Int.reduceLE, Int.reduceToNat, Nat.reduceAdd, Nat.reduceMul, Nat.reduceLeDiff, Nat.reduceLT, Nat.reduceSub, Int.reduceNeg, Int.reduceEq, Int.reduceBEq, Int.reduceBNe, Nat.reduceEqDiff, fW, hi', hg, hgb, c1, c2, w2, hal, r1, hal2, r2, hwr, List.length_append]
      · have a1 : atF i x = [] := by unfold atF; rw [if_neg c1, if_neg c2]
        rw [a1, List.nil_append]
        cases b
        · simp only [seenF, Bool.false_eq_true, if_false, List.append_nil]
          simp -implicitDefEqProofs only [act_Facts_b0, act_Facts_b1, act_Facts_b2, go_sem, ↓reduceIte, reduceCtorEq, Int.reduceLT, Int.reduceLE, Int.reduceToNat, Nat.reduceAdd, Nat.reduceMul, Nat.reduceLeDiff, Nat.reduceLT, Nat.reduceSub, Int.reduceNeg, Int.reduceEq, Int.reduceBEq, Int.reduceBNe, Nat.reduceEqDiff, fW, hi', hg, hgb, c1, c2, hwr]
        · simp only [seenF, if_true, mapF_snoc]
          simp -implicitDefEqProofs only [act_Facts_b0, act_Facts_b1, act_Facts_b2, go_sem, ↓reduceIte, reduceCtorEq, Int.reduceLT, Int.reduceLE, Int.reduceToNat, Nat.reduceAdd, Nat.reduceMul, Nat.reduceLeDiff, Nat.reduceLT, Nat.reduceSub, Int.reduceNeg, Int.reduceEq, Int.reduceBEq, Int.reduceBNe, Nat.reduceEqDiff, fW, hi', hg, hgb, c1, c2, hal, r1, hwr]
  · rintro env h' ⟨rfl, rfl⟩
    simp -implicitDefEqProofs only [act_Facts_b0, go_sem, ↓reduceIte, reduceCtorEq, Int.reduceLT, Int.reduceLE, Int.reduceToNat, Nat.reduceAdd, Nat.reduceMul, Nat.reduceLeDiff, Nat.reduceLT, Nat.reduceSub, Int.reduceNeg, Int.reduceEq, Int.reduceBEq, Int.reduceBNe, Nat.reduceEqDiff, fW, Int.lt_irrefl]
    rw [Sat_bind]
    have hnn : ((w.sl.toNat : Nat) : Int) = w.sl := Int.toNat_of_nonneg hs0
    refine loop_up (I := fun i env h' => h' = [.cells true (fW w)] ∧ env = (VV.undef :: (.ptr 0 0 : VV) :: VV.undef :: (.list .o ((factP w w.pl.length ++ factS w i).map fF) : VV) :: VV.undef :: VV.undef :: VV.undef :: VV.undef :: VV.undef :: VV.undef :: VV.undef :: VV.undef :: VV.undef :: VV.undef :: VV.undef :: VV.undef :: VV.undef :: VV.undef :: VV.undef :: VV.undef :: VV.undef :: VV.undef :: VV.undef :: VV.undef :: VV.undef :: VV.undef :: VV.undef :: VV.undef :: VV.undef :: VV.undef :: VV.undef :: VV.undef :: VV.undef :: VV.undef :: VV.undef :: VV.undef :: VV.undef :: VV.undef :: VV.undef :: VV.undef :: VV.undef :: VV.undef :: VV.undef :: VV.undef :: VV.undef :: VV.undef :: VV.undef :: VV.undef :: VV.undef :: VV.undef :: VV.undef :: (.int .i64 w.sl : VV) :: (.int .i64 ((i : Nat) : Int) : VV) :: VV.undef :: VV.undef :: VV.undef :: VV.undef :: VV.undef :: VV.undef :: VV.undef :: VV.undef :: VV.undef :: VV.undef :: VV.undef :: VV.undef :: VV.undef :: VV.undef :: VV.undef :: VV.undef :: VV.undef :: VV.undef :: VV.undef :: VV.undef :: VV.undef :: VV.undef :: VV.undef :: VV.undef :: VV.undef :: VV.undef :: VV.undef :: VV.undef :: VV.undef :: VV.undef :: VV.undef :: VV.undef :: VV.undef :: VV.undef :: VV.undef :: VV.undef :: VV.undef :: VV.undef :: VV.undef :: VV.undef :: [])) w.sl.toNat ?_ ?_ (Nat.zero_le _) ⟨by simp only [fW], by simp -implicitDefEqProofs only [go_sem, ↓reduceIte, reduceCtorEq, Int.reduceLT, Int.reduceLE, Int.reduceToNat, Nat.reduceAdd, Nat.reduceMul, Nat.reduceLeDiff, Nat.reduceLT, Nat.reduceSub, Int.reduceNeg, Int.reduceEq, Int.reduceBEq, Int.reduceBNe, Nat.reduceEqDiff, factS, List.range_zero, List.flatMap_nil]⟩
    · rintro i env h' hi ⟨rfl, rfl⟩
      have hi' : (i : Int) < w.sl := by omega
      have hwr := wrap_succ (i := i) (by omega)
      have hlen := factS_len w i
      have e : factS w (i + 1) = factS w i ++ slotF w i := fm_succ _ i
      rw [e, ← List.append_assoc]
      have hI := hIn i
      have hal := all_len fF_len (factP w w.pl.length ++ factS w i)
      have r1 := F_room (n := (factP w w.pl.length ++ factS w i).length) (by rw [List.length_append]; omega)
      generalize factP w w.pl.length ++ factS w i = A at *
      by_cases c : inF w i < 0
      · have a1 : slotF w i = [⟨4, i, 0⟩] := if_pos c
        rw [a1, mapF_snoc]
        simp -implicitDefEqProofs only [act_Facts_b0, act_Facts_b1, act_Facts_b2, go_sem, ↓reduceIte, reduceCtorEq, Int.reduceLT, Int.reduceLE, Int.reduceToNat, Nat.reduceAdd, Nat.reduceMul, Nat.reduceLeDiff, Nat.reduceLT, Nat.reduceSub, Int.reduceNeg, Int.reduceEq, Int.reduceBEq, Int.reduceBNe, Nat.reduceEqDiff, fW, hi', hI, c, hal, r1, hwr]
      · have a1 : slotF w i = [] := if_neg c
        rw [a1, List.append_nil]
        simp -implicitDefEqProofs only [act_Facts_b0, act_Facts_b1, act_Facts_b2, go_sem, ↓reduceIte, reduceCtorEq, Int.reduceLT, Int.reduceLE, Int.reduceToNat, Nat.reduceAdd, Nat.reduceMul, Nat.reduceLeDiff, Nat.reduceLT, Nat.reduceSub, Int.reduceNeg, Int.reduceEq, Int.reduceBEq, Int.reduceBNe, Nat.reduceEqDiff, fW, hi', hI, c, hwr]
    · rintro env h' ⟨rfl, rfl⟩
      have hirr : ¬ ((w.sl.toNat : Nat) : Int) < w.sl := by omega
      simp -implicitDefEqProofs only [act_Facts_b0, act_Facts_b1, go_sem, ↓reduceIte, reduceCtorEq, Int.reduceLT, Int.reduceLE, Int.reduceToNat, Nat.reduceAdd, Nat.reduceMul, Nat.reduceLeDiff, Nat.reduceLT, Nat.reduceSub, Int.reduceNeg, Int.reduceEq, Int.reduceBEq, Int.reduceBNe, Nat.reduceEqDiff, fW, hirr]
      rw [Sat_bind]
      refine loop_up (I := fun i env h' => h' = [.cells true (fW w)] ∧ env = (VV.undef :: (.ptr 0 0 : VV) :: VV.undef :: (.list .o ((factP w w.pl.length ++ factS w w.sl.toNat ++ factA w i).map fF) : VV) :: VV.undef :: VV.undef :: VV.undef :: VV.undef :: VV.undef :: VV.undef :: VV.undef :: VV.undef :: VV.undef :: VV.undef :: VV.undef :: VV.undef :: VV.undef :: VV.undef :: VV.undef :: VV.undef :: VV.undef :: VV.undef :: VV.undef :: VV.undef :: VV.undef :: VV.undef :: VV.undef :: VV.undef :: VV.undef :: VV.undef :: VV.undef :: VV.undef :: VV.undef :: VV.undef :: VV.undef :: VV.undef :: VV.undef :: VV.undef :: VV.undef :: VV.undef :: VV.undef :: VV.undef :: VV.undef :: VV.undef :: VV.undef :: VV.undef :: VV.undef :: VV.undef :: VV.undef :: VV.undef :: VV.undef :: VV.undef :: VV.undef :: VV.undef :: VV.undef :: VV.undef :: VV.undef :: VV.undef :: VV.undef :: VV.undef :: VV.undef :: VV.undef :: VV.undef :: VV.undef :: VV.undef :: VV.undef :: (.list .s (w.sp.map fI) : VV) :: (.int .i64 ((w.sp.length : Nat) : Int) : VV) :: (.int .i64 ((i : Nat) : Int) : VV) :: VV.undef :: VV.undef :: VV.undef :: VV.undef :: VV.undef :: VV.undef :: VV.undef :: VV.undef :: VV.undef :: VV.undef :: VV.undef :: VV.undef :: VV.undef :: VV.undef :: VV.undef :: VV.undef :: VV.undef :: VV.undef :: VV.undef :: VV.undef :: VV.undef :: VV.undef :: VV.undef :: VV.undef :: [])) w.sp.length ?_ ?_ (Nat.zero_le _) ⟨by simp only [fW], by simp -implicitDefEqProofs only [go_sem, ↓reduceIte, reduceCtorEq, Int.reduceLT, Int.reduceLE, Int.reduceToNat, Nat.reduceAdd, Nat.reduceMul, Nat.reduceLeDiff, Nat.reduceLT, Nat.reduceSub, Int.reduceNeg, Int.reduceEq, Int.reduceBEq, Int.reduceBNe, Nat.reduceEqDiff, factA, List.range_zero, List.flatMap_nil]⟩
      · rintro i env h' hi ⟨rfl, rfl⟩
        have hi' : (i : Int) < (w.sp.length : Int) := by omega
        have hwr := wrap_succ (i := i) (by omega)
        have hg := gI_map hi
        have hlen := factA_len w i
        have e : factA w (i + 1) = factA w i ++ (freeF w i ++ spotF w i) := fm_succ _ i
        rw [e, ← List.append_assoc]
        have hH := hHo i
        have hal := all_len fF_len (factP w w.pl.length ++ factS w w.sl.toNat ++ factA w i)
        have hla : (factP w w.pl.length ++ factS w w.sl.toNat ++ factA w i).length ≤ 50 := by rw [List.length_append, List.length_append]; omega
        generalize factP w w.pl.length ++ factS w w.sl.toNat ++ factA w i = A at *
        have r1 := F_room (n := A.length) (by omega)
        have r2 := F_room (n := A.length + 1) (by omega)
        have hal2 : (A.map fF ++ [[VV.int .i64 3, .int .i64 i, .int .i64 0]]).all (fun x => decide (x.length = 3)) = true := by rw [List.all_append, hal]; rfl
        unfold freeF spotF
        by_cases c1 : holdsF w i < 0
        · rw [if_pos c1]
          by_cases c2 : gI w.sp i = -1
          · rw [if_pos c2, List.append_nil, mapF_snoc]
            rw [c2] at hg
            simp -implicitDefEqProofs only [act_Facts_b0, act_Facts_b1, act_Facts_b2, go_sem, ↓reduceIte, reduceCtorEq, Int.reduceLT, Int.reduceLE, Int.reduceToNat, Nat.reduceAdd, Nat.reduceMul, Nat.reduceLeDiff, Nat.reduceLT, Nat.reduceSub, Int.reduceNeg, Int.reduceEq, Int.reduceBEq, Int.reduceBNe, Nat.reduceEqDiff, fW, hi', hg, hH, c1, hal, r1, hwr]
          · rw [if_neg c2, ← List.append_assoc, mapF_snoc, mapF_snoc]
            simp -implicitDefEqProofs only [act_Facts_b0, act_Facts_b1, act_Facts_b2, go_sem, ↓reduceIte, reduceCtorEq, Int.reduceLT, Int.reduceLE, Int.reduceToNat, Nat.reduceAdd, Nat.reduceMul, Nat.reduceLeDiff, Nat.reduceLT, Nat.reduceSub, Int.reduceNeg, Int.reduceEq, Int.reduceBEq, Int.reduceBNe, Nat.reduceEqDiff, fW, hi', hg, hH, c1, c2, hal, r1, hal2, r2, hwr, List.length_append]
        · rw [if_neg c1, List.nil_append]
          by_cases c2 : gI w.sp i = -1
          · rw [if_pos c2, List.append_nil]
            rw [c2] at hg
            simp -implicitDefEqProofs only [act_Facts_b0, act_Facts_b1, act_Facts_b2, go_sem, ↓reduceIte, reduceCtorEq, Int.reduceLT, Int.reduceLE, Int.reduceToNat, Nat.reduceAdd, Nat.reduceMul, Nat.reduceLeDiff, Nat.reduceLT, Nat.reduceSub, Int.reduceNeg, Int.reduceEq, Int.reduceBEq, Int.reduceBNe, Nat.reduceEqDiff, fW, hi', hg, hH, c1, hwr]
          · rw [if_neg c2, mapF_snoc]
            simp -implicitDefEqProofs only [act_Facts_b0, act_Facts_b1, act_Facts_b2, go_sem, ↓reduceIte, reduceCtorEq, Int.reduceLT, Int.reduceLE, Int.reduceToNat, Nat.reduceAdd, Nat.reduceMul, Nat.reduceLeDiff, Nat.reduceLT, Nat.reduceSub, Int.reduceNeg, Int.reduceEq, Int.reduceBEq, Int.reduceBNe, Nat.reduceEqDiff, fW, hi', hg, hH, c1, c2, hal, r1, hwr]
      · rintro env h' ⟨rfl, rfl⟩
        have e : factP w w.pl.length ++ factS w w.sl.toNat ++ factA w w.sp.length = factsL w := rfl
        have e2 : (ofF (factsL w)).map fF = T := hT
        rw [e2] at hO
        rw [e]
        simp -implicitDefEqProofs only [act_Facts_b0, act_Facts_b1, act_Facts_b2, go_sem, ↓reduceIte, reduceCtorEq, Int.reduceLT, Int.reduceLE, Int.reduceToNat, Nat.reduceAdd, Nat.reduceMul, Nat.reduceLeDiff, Nat.reduceLT, Nat.reduceSub, Int.reduceNeg, Int.reduceEq, Int.reduceBEq, Int.reduceBNe, Nat.reduceEqDiff, fW, Int.lt_irrefl, hO]
        exact hP1
end Vg.G3
