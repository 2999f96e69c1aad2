import Derived.Test.YtpoofafddbcnpaaVHB
namespace Vg.G3
open Go Lg
set_option linter.unusedSimpArgs false
set_option linter.unusedVariables false
set_option maxRecDepth 10000
set_option maxHeartbeats 4000000
attribute [local congr] bind_congr1
attribute [local go_sem] act_Steps_r0 act_Steps_r1 act_Steps_r2 act_Steps_r3 act_Steps_r4 act_Steps_r5 act_Steps_r6 act_Steps_r7 act_Steps_r8 act_Steps_r9 act_Steps_r10 act_Steps_r11 act_Steps_r12 act_Steps_r13 act_Steps_r14 act_Steps_r15 act_Steps_r16 act_Steps_r17 act_Steps_r18 act_Steps_r19 act_Steps_r20 act_Steps_r21 act_Steps_r22 act_Steps_r23 act_Steps_f act_Steps_v
def candP (k a : Int) (n : Nat) : List Stp := (List.range n).map fun (p : Nat) => ⟨k, a, p, -1, 0⟩
def candS (k a : Int) (n : Nat) : List Stp := (List.range n).map fun (s : Nat) => ⟨k, a, -1, s, 0⟩
def candA (w : Wd) (k : Int) (a : Nat) : List Stp := candP k a w.pl.length ++ candS k a w.sl.toNat
def candK (w : Wd) (k : Int) (n : Nat) : List Stp := (List.range n).flatMap (candA w k)
def cands (w : Wd) (n : Nat) : List Stp := (List.range n).flatMap fun (k : Nat) => candK w k w.sp.length
theorem candP_succ (k a : Int) (n : Nat) : candP k a (n + 1) = candP k a n ++ [⟨k, a, n, -1, 0⟩] := by unfold candP; rw [List.range_succ, List.map_append]; rfl
theorem candS_succ (k a : Int) (n : Nat) : candS k a (n + 1) = candS k a n ++ [⟨k, a, -1, n, 0⟩] := by unfold candS; rw [List.range_succ, List.map_append]; rfl
theorem candK_succ (w : Wd) (k : Int) (n : Nat) : candK w k (n + 1) = candK w k n ++ candA w k n := by unfold candK; rw [List.range_succ, List.flatMap_append]; simp
theorem cands_succ (w : Wd) (n : Nat) : cands w (n + 1) = cands w n ++ candK w n w.sp.length := by unfold cands; rw [List.range_succ, List.flatMap_append]; simp
theorem candP_len (k a : Int) (n : Nat) : (candP k a n).length = n := by simp [candP]
theorem candS_len (k a : Int) (n : Nat) : (candS k a n).length = n := by simp [candS]
theorem candK_len (w : Wd) (k : Int) (n : Nat) : (candK w k n).length = n * (w.pl.length + w.sl.toNat) := by
  induction n with
  | zero => simp [candK]
  | succ n ih => rw [candK_succ, List.length_append, ih, candA, List.length_append, candP_len, candS_len, Nat.succ_mul]
theorem cands_len (w : Wd) (n : Nat) : (cands w n).length = n * (w.sp.length * (w.pl.length + w.sl.toNat)) := by
  induction n with
  | zero => simp [cands]
  | succ n ih => rw [cands_succ, List.length_append, ih, candK_len, Nat.succ_mul]
/-- Steps that are being gathered. -/
def BS (w : Wd) (acc : List Stp) (v : VV) (h : VHeap) : Prop := h[0]? = some (.cells true (fW w)) ∧ ((acc = [] ∧ v = .list .f []) ∨ ∃ m, 1 ≤ acc.length ∧ 0 < m ∧ v = .hs m 0 acc.length 5 ∧ h[m]? = some (.cells true (acc.map fS).flatten))
theorem BS_new {w : Wd} {v : VV} {h : VHeap} (hb : BS w [] v h) (x : Stp) : BS w [x] (.hs h.length 0 1 5) (h ++ [.cells true (fS x)]) := by
  have h0 := hb.1
  refine ⟨ap_low h0, .inr ⟨h.length, Nat.le_refl 1, lt_of_some h0, rfl, ?_⟩⟩
  rw [List.getElem?_concat_length]; simp
theorem BS_add {w : Wd} {acc : List Stp} {m : Nat} {h : VHeap} (h0 : h[0]? = some (.cells true (fW w))) (hm : 0 < m) (x : Stp) : BS w (acc ++ [x]) (.hs h.length 0 (acc.length + 1) 5) (h.set m .dead ++ [.cells true ((acc.map fS).flatten ++ fS x)]) := by
  refine ⟨ap_low (by rw [List.getElem?_set_ne (by omega)]; exact h0), .inr ⟨h.length, by simp, lt_of_some h0, by simp, ?_⟩⟩
  have : h.length = (h.set m VBlk.dead).length := by simp
  rw [this, List.getElem?_concat_length]; simp
theorem S_room {n : Nat} (h : n ≤ 2000) : (n + 1 + 512) * 40 ≤ 140737488355328 := Nat.le_trans (Nat.mul_le_mul_right 40 (show n + 1 + 512 ≤ 3000 by omega)) (by decide)
theorem Steps_b2 {w : Wd} {acc : List Stp} {v : VV} {h : VHeap} {k a : Int} (hacc : acc.length + w.pl.length ≤ 2000) (hB : BS w acc v h) (Q : Out × VEnv × VHeap → Prop)
    (hQ : ∀ v' h', BS w (acc ++ candP k a w.pl.length) v' h' → Q (.exit 4, (VV.undef :: (.ptr 0 0 : VV) :: VV.undef :: (v' : VV) :: (.int .i64 k : VV) :: (.int .i64 a : VV) :: VV.undef :: VV.undef :: VV.undef :: VV.undef :: VV.undef :: VV.undef :: VV.undef :: VV.undef :: VV.undef :: VV.undef :: VV.undef :: (.int .i64 ((w.sp.length : Nat) : Int) : VV) :: (.int .i64 a : VV) :: VV.undef :: VV.undef :: VV.undef :: VV.undef :: (.int .i64 ((w.pl.length : Nat) : Int) : VV) :: (.int .i64 ((w.pl.length : Nat) : Int) : VV) :: (.bool false : VV) :: VV.undef :: VV.undef :: VV.undef :: VV.undef :: VV.undef :: VV.undef :: VV.undef :: VV.undef :: VV.undef :: VV.undef :: VV.undef :: VV.undef :: VV.undef :: VV.undef :: VV.undef :: VV.undef :: VV.undef :: VV.undef :: VV.undef :: VV.undef :: VV.undef :: VV.undef :: VV.undef :: VV.undef :: VV.undef :: VV.undef :: VV.undef :: VV.undef :: VV.undef :: []), h')) :
    Sat (loopV (callVL vp) 0 [1, 3, 4, 5, 17, 18, 23, 24] act_Steps_b2 (VV.undef :: (.ptr 0 0 : VV) :: VV.undef :: (v : VV) :: (.int .i64 k : VV) :: (.int .i64 a : VV) :: VV.undef :: VV.undef :: VV.undef :: VV.undef :: VV.undef :: VV.undef :: VV.undef :: VV.undef :: VV.undef :: VV.undef :: VV.undef :: (.int .i64 ((w.sp.length : Nat) : Int) : VV) :: (.int .i64 a : VV) :: VV.undef :: VV.undef :: VV.undef :: VV.undef :: (.int .i64 ((w.pl.length : Nat) : Int) : VV) :: (.int .i64 0 : VV) :: VV.undef :: VV.undef :: VV.undef :: VV.undef :: VV.undef :: VV.undef :: VV.undef :: VV.undef :: VV.undef :: VV.undef :: VV.undef :: VV.undef :: VV.undef :: VV.undef :: VV.undef :: VV.undef :: VV.undef :: VV.undef :: VV.undef :: VV.undef :: VV.undef :: VV.undef :: VV.undef :: VV.undef :: VV.undef :: VV.undef :: VV.undef :: VV.undef :: VV.undef :: VV.undef :: []) h) Q := by
  refine loop_up (I := fun j env h' => ∃ v', BS w (acc ++ candP k a j) v' h' ∧ env = (VV.undef :: (.ptr 0 0 : VV) :: VV.undef :: (v' : VV) :: (.int .i64 k : VV) :: (.int .i64 a : VV) :: VV.undef :: VV.undef :: VV.undef :: VV.undef :: VV.undef :: VV.undef :: VV.undef :: VV.undef :: VV.undef :: VV.undef :: VV.undef :: (.int .i64 ((w.sp.length : Nat) : Int) : VV) :: (.int .i64 a : VV) :: VV.undef :: VV.undef :: VV.undef :: VV.undef :: (.int .i64 ((w.pl.length : Nat) : Int) : VV) :: (.int .i64 ((j : Nat) : Int) : VV) :: VV.undef :: VV.undef :: VV.undef :: VV.undef :: VV.undef :: VV.undef :: VV.undef :: VV.undef :: VV.undef :: VV.undef :: VV.undef :: VV.undef :: VV.undef :: VV.undef :: VV.undef :: VV.undef :: VV.undef :: VV.undef :: VV.undef :: VV.undef :: VV.undef :: VV.undef :: VV.undef :: VV.undef :: VV.undef :: VV.undef :: VV.undef :: VV.undef :: VV.undef :: VV.undef :: [])) w.pl.length ?_ ?_ (Nat.zero_le _) ⟨v, by simpa [candP] using hB, by simp -implicitDefEqProofs only [go_sem, ↓reduceIte, reduceCtorEq, Int.reduceLT, Int.reduceLE, Int.reduceToNat, Nat.reduceAdd, Nat.reduceMul, Nat.reduceLeDiff, Nat.reduceLT, Nat.reduceSub, Int.reduceNeg, Int.reduceEq, Int.reduceBEq, Int.reduceBNe, Nat.reduceEqDiff]⟩
  · rintro j env h' hj ⟨v', hB', rfl⟩
    have hj' : (j : Int) < (w.pl.length : Int) := by omega
    have hw := wrap_succ (i := j) (by omega)
    have hl : (acc ++ candP k a j).length ≤ 2000 := by rw [List.length_append, candP_len]; omega
    rw [candP_succ, ← List.append_assoc]
    generalize acc ++ candP k a j = A at *
    have hsh := showS_of A
    have hx := show ([VV.int .i64 k, .int .i64 a, .int .i64 ((j : Nat) : Int), .int .i64 (-1), .int .i64 0].map fun c => c.sh.ow) = [VV.int .i64 k, .int .i64 a, .int .i64 ((j : Nat) : Int), .int .i64 (-1), .int .i64 0] from rfl
    obtain ⟨h0, ⟨rfl, rfl⟩ | ⟨m, h1, hm, rfl, hn⟩⟩ := id hB'
    · have hN := BS_new hB' ⟨k, a, j, -1, 0⟩
      simp -implicitDefEqProofs only [act_Steps_b2, act_Steps_b3, act_Steps_b1, act_Steps_b0, go_sem, ↓reduceIte, reduceCtorEq, Int.reduceLT, Int.reduceLE, Int.reduceToNat, Nat.reduceAdd, Nat.reduceMul, Nat.reduceLeDiff, Nat.reduceLT, Nat.reduceSub, Int.reduceNeg, Int.reduceEq, Int.reduceBEq, Int.reduceBNe, Nat.reduceEqDiff, hj', hw]
      refine ⟨_, ?_, rfl⟩
      exact hN
    · have hN := BS_add h0 hm (acc := A) ⟨k, a, j, -1, 0⟩
      have hr := S_room hl
      have hc := cellsS_len A
      have hle : A.length * 5 ≤ (A.map fS).flatten.length := by omega
      have ht : (A.map fS).flatten.take (A.length * 5) = (A.map fS).flatten := List.take_of_length_le (by omega)
      simp -implicitDefEqProofs only [act_Steps_b2, act_Steps_b3, act_Steps_b1, act_Steps_b0, go_sem, ↓reduceIte, reduceCtorEq, Int.reduceLT, Int.reduceLE, Int.reduceToNat, Nat.reduceAdd, Nat.reduceMul, Nat.reduceLeDiff, Nat.reduceLT, Nat.reduceSub, Int.reduceNeg, Int.reduceEq, Int.reduceBEq, Int.reduceBNe, Nat.reduceEqDiff, hj', hw, hn, hr, hle, ht]
      refine ⟨_, ?_, rfl⟩
      rw [List.map_append, hsh]
      exact hN
  · rintro env h' ⟨v', hB', rfl⟩
    simp -implicitDefEqProofs only [act_Steps_b2, act_Steps_b3, act_Steps_b1, act_Steps_b0, go_sem, ↓reduceIte, reduceCtorEq, Int.reduceLT, Int.reduceLE, Int.reduceToNat, Nat.reduceAdd, Nat.reduceMul, Nat.reduceLeDiff, Nat.reduceLT, Nat.reduceSub, Int.reduceNeg, Int.reduceEq, Int.reduceBEq, Int.reduceBNe, Nat.reduceEqDiff, Int.lt_irrefl]
    exact hQ v' h' hB'
theorem Steps_b3 {w : Wd} {acc : List Stp} {v : VV} {h : VHeap} {k a : Int} (hsl : 0 ≤ w.sl) (hacc : acc.length + w.sl.toNat ≤ 2000) (hB : BS w acc v h) (Q : Out × VEnv × VHeap → Prop)
    (hQ : ∀ v' h', BS w (acc ++ candS k a w.sl.toNat) v' h' → Q (.exit 6, (VV.undef :: (.ptr 0 0 : VV) :: VV.undef :: (v' : VV) :: (.int .i64 k : VV) :: (.int .i64 a : VV) :: VV.undef :: VV.undef :: VV.undef :: VV.undef :: VV.undef :: VV.undef :: VV.undef :: VV.undef :: VV.undef :: VV.undef :: VV.undef :: (.int .i64 ((w.sp.length : Nat) : Int) : VV) :: (.int .i64 a : VV) :: VV.undef :: VV.undef :: VV.undef :: VV.undef :: VV.undef :: VV.undef :: VV.undef :: VV.undef :: VV.undef :: VV.undef :: VV.undef :: VV.undef :: VV.undef :: VV.undef :: VV.undef :: VV.undef :: VV.undef :: (.int .i64 w.sl : VV) :: (.int .i64 ((w.sl.toNat : Nat) : Int) : VV) :: (.bool false : VV) :: VV.undef :: VV.undef :: VV.undef :: VV.undef :: VV.undef :: VV.undef :: VV.undef :: VV.undef :: VV.undef :: VV.undef :: VV.undef :: VV.undef :: VV.undef :: VV.undef :: VV.undef :: VV.undef :: []), h')) :
    Sat (loopV (callVL vp) 0 [1, 3, 4, 5, 17, 18, 36, 37] act_Steps_b3 (VV.undef :: (.ptr 0 0 : VV) :: VV.undef :: (v : VV) :: (.int .i64 k : VV) :: (.int .i64 a : VV) :: VV.undef :: VV.undef :: VV.undef :: VV.undef :: VV.undef :: VV.undef :: VV.undef :: VV.undef :: VV.undef :: VV.undef :: VV.undef :: (.int .i64 ((w.sp.length : Nat) : Int) : VV) :: (.int .i64 a : VV) :: VV.undef :: VV.undef :: VV.undef :: VV.undef :: VV.undef :: VV.undef :: VV.undef :: VV.undef :: VV.undef :: VV.undef :: VV.undef :: VV.undef :: VV.undef :: VV.undef :: VV.undef :: VV.undef :: VV.undef :: (.int .i64 w.sl : VV) :: (.int .i64 0 : VV) :: VV.undef :: VV.undef :: VV.undef :: VV.undef :: VV.undef :: VV.undef :: VV.undef :: VV.undef :: VV.undef :: VV.undef :: VV.undef :: VV.undef :: VV.undef :: VV.undef :: VV.undef :: VV.undef :: VV.undef :: []) h) Q := by
  refine loop_up (I := fun j env h' => ∃ v', BS w (acc ++ candS k a j) v' h' ∧ env = (VV.undef :: (.ptr 0 0 : VV) :: VV.undef :: (v' : VV) :: (.int .i64 k : VV) :: (.int .i64 a : VV) :: VV.undef :: VV.undef :: VV.undef :: VV.undef :: VV.undef :: VV.undef :: VV.undef :: VV.undef :: VV.undef :: VV.undef :: VV.undef :: (.int .i64 ((w.sp.length : Nat) : Int) : VV) :: (.int .i64 a : VV) :: VV.undef :: VV.undef :: VV.undef :: VV.undef :: VV.undef :: VV.undef :: VV.undef :: VV.undef :: VV.undef :: VV.undef :: VV.undef :: VV.undef :: VV.undef :: VV.undef :: VV.undef :: VV.undef :: VV.undef :: (.int .i64 w.sl : VV) :: (.int .i64 ((j : Nat) : Int) : VV) :: VV.undef :: VV.undef :: VV.undef :: VV.undef :: VV.undef :: VV.undef :: VV.undef :: VV.undef :: VV.undef :: VV.undef :: VV.undef :: VV.undef :: VV.undef :: VV.undef :: VV.undef :: VV.undef :: VV.undef :: [])) w.sl.toNat ?_ ?_ (Nat.zero_le _) ⟨v, by simpa [candS] using hB, by simp -implicitDefEqProofs only [go_sem, ↓reduceIte, reduceCtorEq, Int.reduceLT, Int.reduceLE, Int.reduceToNat, Nat.reduceAdd, Nat.reduceMul, Nat.reduceLeDiff, Nat.reduceLT, Nat.reduceSub, Int.reduceNeg, Int.reduceEq, Int.reduceBEq, Int.reduceBNe, Nat.reduceEqDiff]⟩
  · rintro j env h' hj ⟨v', hB', rfl⟩
    have hj' : (j : Int) < w.sl := by omega
    have hw := wrap_succ (i := j) (by omega)
    have hl : (acc ++ candS k a j).length ≤ 2000 := by rw [List.length_append, candS_len]; omega
    rw [candS_succ, ← List.append_assoc]
    generalize acc ++ candS k a j = A at *
    have hsh := showS_of A
    have hx := show ([VV.int .i64 k, .int .i64 a, .int .i64 (-1), .int .i64 ((j : Nat) : Int), .int .i64 0].map fun c => c.sh.ow) = [VV.int .i64 k, .int .i64 a, .int .i64 (-1), .int .i64 ((j : Nat) : Int), .int .i64 0] from rfl
    obtain ⟨h0, ⟨rfl, rfl⟩ | ⟨m, h1, hm, rfl, hn⟩⟩ := id hB'
    · have hN := BS_new hB' ⟨k, a, -1, j, 0⟩
      simp -implicitDefEqProofs only [act_Steps_b2, act_Steps_b3, act_Steps_b1, act_Steps_b0, go_sem, ↓reduceIte, reduceCtorEq, Int.reduceLT, Int.reduceLE, Int.reduceToNat, Nat.reduceAdd, Nat.reduceMul, Nat.reduceLeDiff, Nat.reduceLT, Nat.reduceSub, Int.reduceNeg, Int.reduceEq, Int.reduceBEq, Int.reduceBNe, Nat.reduceEqDiff, hj', hw]
      refine ⟨_, ?_, rfl⟩
      exact hN
    · have hN := BS_add h0 hm (acc := A) ⟨k, a, -1, j, 0⟩
      have hr := S_room hl
      have hc := cellsS_len A
      have hle : A.length * 5 ≤ (A.map fS).flatten.length := by omega
      have ht : (A.map fS).flatten.take (A.length * 5) = (A.map fS).flatten := List.take_of_length_le (by omega)
      simp -implicitDefEqProofs only [act_Steps_b2, act_Steps_b3, act_Steps_b1, act_Steps_b0, go_sem, ↓reduceIte, reduceCtorEq, Int.reduceLT, Int.reduceLE, Int.reduceToNat, Nat.reduceAdd, Nat.reduceMul, Nat.reduceLeDiff, Nat.reduceLT, Nat.reduceSub, Int.reduceNeg, Int.reduceEq, Int.reduceBEq, Int.reduceBNe, Nat.reduceEqDiff, hj', hw, hn, hr, hle, ht]
      refine ⟨_, ?_, rfl⟩
      rw [List.map_append, hsh]
      exact hN
  · rintro env h' ⟨v', hB', rfl⟩
    have hnn : ((w.sl.toNat : Nat) : Int) = w.sl := Int.toNat_of_nonneg hsl
    rw [← hnn] at hQ ⊢
    simp -implicitDefEqProofs only [act_Steps_b2, act_Steps_b3, act_Steps_b1, act_Steps_b0, go_sem, ↓reduceIte, reduceCtorEq, Int.reduceLT, Int.reduceLE, Int.reduceToNat, Nat.reduceAdd, Nat.reduceMul, Nat.reduceLeDiff, Nat.reduceLT, Nat.reduceSub, Int.reduceNeg, Int.reduceEq, Int.reduceBEq, Int.reduceBNe, Nat.reduceEqDiff, Int.lt_irrefl]
    exact hQ v' h' hB'
end Vg.G3
namespace Vg.G3
open Go Lg
set_option linter.unusedSimpArgs false
set_option linter.unusedVariables false
set_option maxRecDepth 10000
set_option maxHeartbeats 4000000
attribute [local congr] bind_congr1
attribute [local go_sem] act_Steps_r0 act_Steps_r1 act_Steps_r2 act_Steps_r3 act_Steps_r4 act_Steps_r5 act_Steps_r6 act_Steps_r7 act_Steps_r8 act_Steps_r9 act_Steps_r10 act_Steps_r11 act_Steps_r12 act_Steps_r13 act_Steps_r14 act_Steps_r15 act_Steps_r16 act_Steps_r17 act_Steps_r18 act_Steps_r19 act_Steps_r20 act_Steps_r21 act_Steps_r22 act_Steps_r23 act_Steps_f act_Steps_v
noncomputable def stepsF (w : Wd) : List Stp := sortS (keepS w (cands w 4))
theorem BS_some {w : Wd} {acc : List Stp} {v : VV} {h : VHeap} (hB : BS w acc v h) (h1 : 1 ≤ acc.length) : ∃ m, 0 < m ∧ v = .hs m 0 acc.length 5 ∧ h[m]? = some (.cells true (acc.map fS).flatten) := by
  obtain ⟨_, ⟨rfl, _⟩ | ⟨m, _, h2, h3, h4⟩⟩ := hB
  · simp at h1
  · exact ⟨m, h2, h3, h4⟩
theorem BS_trim {w : Wd} {acc : List Stp} {v : VV} {h : VHeap} {k : Nat} (hB : BS w acc v h) (hk : 0 < k) : BS w acc v (if v.low k = true then h.take k else h) := by
  split
  · rename_i hl
    refine ⟨by rw [List.getElem?_take, if_pos hk]; exact hB.1, ?_⟩
    rcases hB.2 with h1 | ⟨m, h1, h2, rfl, h4⟩
    · exact .inl h1
    · simp only [VV.low, decide_eq_true_eq] at hl
      exact .inr ⟨m, h1, h2, rfl, by rw [List.getElem?_take, if_pos hl]; exact h4⟩
  · exact hB
theorem Steps_b1 {w : Wd} {acc : List Stp} {v : VV} {h : VHeap} {k : Int} (hs : Small w) (hacc : acc.length + 4 * 14 ≤ 1000) (hB : BS w acc v h) (Q : Out × VEnv × VHeap → Prop)
    (hQ : ∀ v' h', BS w (acc ++ candK w k w.sp.length) v' h' → Q (.exit 2, (VV.undef :: (.ptr 0 0 : VV) :: VV.undef :: (v' : VV) :: (.int .i64 k : VV) :: VV.undef :: VV.undef :: VV.undef :: VV.undef :: VV.undef :: VV.undef :: VV.undef :: VV.undef :: VV.undef :: VV.undef :: VV.undef :: VV.undef :: (.int .i64 ((w.sp.length : Nat) : Int) : VV) :: (.int .i64 ((w.sp.length : Nat) : Int) : VV) :: (.bool false : VV) :: VV.undef :: VV.undef :: VV.undef :: VV.undef :: VV.undef :: VV.undef :: VV.undef :: VV.undef :: VV.undef :: VV.undef :: VV.undef :: VV.undef :: VV.undef :: VV.undef :: VV.undef :: VV.undef :: VV.undef :: VV.undef :: VV.undef :: VV.undef :: VV.undef :: VV.undef :: VV.undef :: VV.undef :: VV.undef :: VV.undef :: VV.undef :: VV.undef :: VV.undef :: VV.undef :: VV.undef :: VV.undef :: VV.undef :: VV.undef :: VV.undef :: []), h')) :
    Sat (loopV (callVL vp) 0 [1, 3, 4, 17, 18] act_Steps_b1 (VV.undef :: (.ptr 0 0 : VV) :: VV.undef :: (v : VV) :: (.int .i64 k : VV) :: VV.undef :: VV.undef :: VV.undef :: VV.undef :: VV.undef :: VV.undef :: VV.undef :: VV.undef :: VV.undef :: VV.undef :: VV.undef :: VV.undef :: (.int .i64 ((w.sp.length : Nat) : Int) : VV) :: (.int .i64 0 : VV) :: VV.undef :: VV.undef :: VV.undef :: VV.undef :: VV.undef :: VV.undef :: VV.undef :: VV.undef :: VV.undef :: VV.undef :: VV.undef :: VV.undef :: VV.undef :: VV.undef :: VV.undef :: VV.undef :: VV.undef :: VV.undef :: VV.undef :: VV.undef :: VV.undef :: VV.undef :: VV.undef :: VV.undef :: VV.undef :: VV.undef :: VV.undef :: VV.undef :: VV.undef :: VV.undef :: VV.undef :: VV.undef :: VV.undef :: VV.undef :: VV.undef :: VV.undef :: []) h) Q := by
  have hsp := hs.sp
  have hpl := hs.pl
  have hs0 := hs.sl0
  have hs8 := hs.sl8
  refine loop_up (I := fun j env h' => ∃ v', BS w (acc ++ candK w k j) v' h' ∧ env = (VV.undef :: (.ptr 0 0 : VV) :: VV.undef :: (v' : VV) :: (.int .i64 k : VV) :: VV.undef :: VV.undef :: VV.undef :: VV.undef :: VV.undef :: VV.undef :: VV.undef :: VV.undef :: VV.undef :: VV.undef :: VV.undef :: VV.undef :: (.int .i64 ((w.sp.length : Nat) : Int) : VV) :: (.int .i64 ((j : Nat) : Int) : VV) :: VV.undef :: VV.undef :: VV.undef :: VV.undef :: VV.undef :: VV.undef :: VV.undef :: VV.undef :: VV.undef :: VV.undef :: VV.undef :: VV.undef :: VV.undef :: VV.undef :: VV.undef :: VV.undef :: VV.undef :: VV.undef :: VV.undef :: VV.undef :: VV.undef :: VV.undef :: VV.undef :: VV.undef :: VV.undef :: VV.undef :: VV.undef :: VV.undef :: VV.undef :: VV.undef :: VV.undef :: VV.undef :: VV.undef :: VV.undef :: VV.undef :: VV.undef :: [])) w.sp.length ?_ ?_ (Nat.zero_le _) ⟨v, by simpa [candK] using hB, by simp -implicitDefEqProofs only [go_sem, ↓reduceIte, reduceCtorEq, Int.reduceLT, Int.reduceLE, Int.reduceToNat, Nat.reduceAdd, Nat.reduceMul, Nat.reduceLeDiff, Nat.reduceLT, Nat.reduceSub, Int.reduceNeg, Int.reduceEq, Int.reduceBEq, Int.reduceBNe, Nat.reduceEqDiff]⟩
  · rintro j env h' hj ⟨v', hB', rfl⟩
    have hj' : (j : Int) < (w.sp.length : Int) := by omega
    have hw := wrap_succ (i := j) (by omega)
    have hl : (acc ++ candK w k j).length ≤ 1000 := by
      rw [List.length_append, candK_len]
      have : j * (w.pl.length + w.sl.toNat) ≤ 4 * 14 := Nat.mul_le_mul (by omega) (by omega)
      omega
    rw [candK_succ, ← List.append_assoc]
    generalize acc ++ candK w k j = A at *
    have h0 := hB'.1
    simp only [fW] at h0
    simp -implicitDefEqProofs only [act_Steps_b1, act_Steps_b0, go_sem, ↓reduceIte, reduceCtorEq, Int.reduceLT, Int.reduceLE, Int.reduceToNat, Nat.reduceAdd, Nat.reduceMul, Nat.reduceLeDiff, Nat.reduceLT, Nat.reduceSub, Int.reduceNeg, Int.reduceEq, Int.reduceBEq, Int.reduceBNe, Nat.reduceEqDiff, hj', h0]
    rw [Sat_bind]
    refine Steps_b2 (k := k) (a := j) (by omega) hB' _ fun v2 h2 hB2 => ?_
    have h0 := hB2.1
    simp only [fW] at h0
    simp -implicitDefEqProofs only [act_Steps_b1, act_Steps_b0, go_sem, ↓reduceIte, reduceCtorEq, Int.reduceLT, Int.reduceLE, Int.reduceToNat, Nat.reduceAdd, Nat.reduceMul, Nat.reduceLeDiff, Nat.reduceLT, Nat.reduceSub, Int.reduceNeg, Int.reduceEq, Int.reduceBEq, Int.reduceBNe, Nat.reduceEqDiff, h0]
    rw [Sat_bind]
    refine Steps_b3 (k := k) (a := j) hs0 (by rw [List.length_append, candP_len]; omega) hB2 _ fun v3 h3 hB3 => ?_
    rw [List.append_assoc] at hB3
    have h0' := lt_of_some hB'.1
    simp -implicitDefEqProofs only [act_Steps_b1, act_Steps_b0, go_sem, ↓reduceIte, reduceCtorEq, Int.reduceLT, Int.reduceLE, Int.reduceToNat, Nat.reduceAdd, Nat.reduceMul, Nat.reduceLeDiff, Nat.reduceLT, Nat.reduceSub, Int.reduceNeg, Int.reduceEq, Int.reduceBEq, Int.reduceBNe, Nat.reduceEqDiff, hw, h0']
    exact ⟨v3, BS_trim hB3 h0', rfl⟩
  · rintro env h' ⟨v', hB', rfl⟩
    simp -implicitDefEqProofs only [act_Steps_b1, act_Steps_b0, go_sem, ↓reduceIte, reduceCtorEq, Int.reduceLT, Int.reduceLE, Int.reduceToNat, Nat.reduceAdd, Nat.reduceMul, Nat.reduceLeDiff, Nat.reduceLT, Nat.reduceSub, Int.reduceNeg, Int.reduceEq, Int.reduceBEq, Int.reduceBNe, Nat.reduceEqDiff, Int.lt_irrefl]
    exact hQ v' h' hB'
theorem fz_hsx {h : VHeap} {base n len es : Nat} {rows : List (List VV)} {cs : List VV} (hb : base ≤ n) (hn : h[n]? = some (.cells true cs)) (hl : len = rows.length) (hle : len * es ≤ cs.length) (hcs : cs.take (len * es) = rows.flatten) (hr : ∀ r ∈ rows, r.length = es) (hs : ∀ r ∈ rows, r.all scal = true) :
    fz h base (.hs n 0 len es) = some (.list .s rows) := by
  subst hl
  have h2 := all_flat hs
  unfold fz
  rw [fzN]
  simp only [hb, if_true, hn, Nat.zero_add, hle, List.drop_zero, hcs]
  rw [scals_fz h2]
  simp only [scals_low h2, if_true]
  rw [chunk_flat rows hr]
theorem keep_len (w : Wd) (l : List Stp) : (keepS w l).length ≤ l.length := List.length_filter_le _ _
theorem Steps_spec {w : Wd} (hw : Ok w) (h1 : 1 ≤ w.pl.length) (h2 : 1 ≤ w.sp.length) (lo : Nat) (h : VHeap) : callVL vp lo n_act_Steps [.agg (fW w)] h = some (.list .s ((stepsF w).map fS), h) := by
  refine call_valE (fn := act_Steps_v) rfl rfl rfl rfl rfl ?_ lo h
  have hpl := hw.pl
  have hsp := hw.sp
  have hsn := hw.sn
  have hs0 := hw.sl0
  have hs8 := hw.sl8
  obtain ⟨e, he, hC⟩ := Check_spec w (by omega) (by omega) (by omega)
  obtain rfl := he.2 hw
  have hclen : ∀ n : Nat, n ≤ 4 → (cands w n).length ≤ 4 * (4 * 14) := fun n hn => by
    rw [cands_len]; exact Nat.mul_le_mul hn (Nat.mul_le_mul hsp (by omega))
  have hc1 : 1 ≤ (cands w 4).length := by
    rw [cands_len]
    exact Nat.mul_pos (by decide) (Nat.mul_pos h2 (by omega))
  generalize hT : (stepsF w).map fS = T
  obtain ⟨P, hP⟩ : ∃ P : VV → Prop, P = fun v : VV => v = .list .s T := ⟨_, rfl⟩
  have hP1 : P (.list .s T) := by subst hP; rfl
  have hP2 : (fun r : VV × VHeap => r.1 = .list .s T) = fun r => P r.1 := by subst hP; rfl
  rw [hP2]
  clear hP hP2
  simp only [fW] at hC
  simp -implicitDefEqProofs only [go_sem, ↓reduceIte, reduceCtorEq, Int.reduceLT, Int.reduceLE, Int.reduceToNat, Nat.reduceAdd, Nat.reduceMul, Nat.reduceLeDiff, Nat.reduceLT, Nat.reduceSub, Int.reduceNeg, Int.reduceEq, Int.reduceBEq, Int.reduceBNe, Nat.reduceEqDiff, fW, hC]
  rw [Sat_bind]
  refine loop_up (I := fun j env h' => ∃ v', BS w (cands w j) v' h' ∧ env = (VV.undef :: (.ptr 0 0 : VV) :: VV.undef :: (v' : VV) :: (.int .i64 ((j : Nat) : Int) : VV) :: VV.undef :: VV.undef :: VV.undef :: VV.undef :: VV.undef :: VV.undef :: VV.undef :: VV.undef :: VV.undef :: VV.undef :: VV.undef :: VV.undef :: VV.undef :: VV.undef :: VV.undef :: VV.undef :: VV.undef :: VV.undef :: VV.undef :: VV.undef :: VV.undef :: VV.undef :: VV.undef :: VV.undef :: VV.undef :: VV.undef :: VV.undef :: VV.undef :: VV.undef :: VV.undef :: VV.undef :: VV.undef :: VV.undef :: VV.undef :: VV.undef :: VV.undef :: VV.undef :: VV.undef :: VV.undef :: VV.undef :: VV.undef :: VV.undef :: VV.undef :: VV.undef :: VV.undef :: VV.undef :: VV.undef :: VV.undef :: VV.undef :: VV.undef :: [])) 4 ?_ ?_ (Nat.zero_le _) ⟨.list .f [], ⟨rfl, .inl ⟨rfl, rfl⟩⟩, by simp -implicitDefEqProofs only [go_sem, ↓reduceIte, reduceCtorEq, Int.reduceLT, Int.reduceLE, Int.reduceToNat, Nat.reduceAdd, Nat.reduceMul, Nat.reduceLeDiff, Nat.reduceLT, Nat.reduceSub, Int.reduceNeg, Int.reduceEq, Int.reduceBEq, Int.reduceBNe, Nat.reduceEqDiff]⟩
  · rintro j env h' hj ⟨v', hB', rfl⟩
    have hj' : (j : Int) ≤ 3 := by omega
    have hwr := wrap_succ (i := j) (by omega)
    have h0 := hB'.1
    have h0' := lt_of_some h0
    have := hclen j (by omega)
    simp only [fW] at h0
    simp -implicitDefEqProofs only [act_Steps_b0, go_sem, ↓reduceIte, reduceCtorEq, Int.reduceLT, Int.reduceLE, Int.reduceToNat, Nat.reduceAdd, Nat.reduceMul, Nat.reduceLeDiff, Nat.reduceLT, Nat.reduceSub, Int.reduceNeg, Int.reduceEq, Int.reduceBEq, Int.reduceBNe, Nat.reduceEqDiff, hj', h0]
    rw [Sat_bind]
    refine Steps_b1 hw.toSmall (by omega) hB' _ fun v2 h2 hB2 => ?_
    rw [← cands_succ] at hB2
    simp -implicitDefEqProofs only [act_Steps_b0, go_sem, ↓reduceIte, reduceCtorEq, Int.reduceLT, Int.reduceLE, Int.reduceToNat, Nat.reduceAdd, Nat.reduceMul, Nat.reduceLeDiff, Nat.reduceLT, Nat.reduceSub, Int.reduceNeg, Int.reduceEq, Int.reduceBEq, Int.reduceBNe, Nat.reduceEqDiff, hwr, h0']
    exact ⟨v2, BS_trim hB2 h0', rfl⟩
  · rintro env h' ⟨v', hB', rfl⟩
    obtain ⟨m, hm, rfl, hn⟩ := BS_some hB' hc1
    have h0 := hB'.1
    have hcl := hclen 4 (by omega)
    obtain ⟨cs, d1, d2, hD⟩ := Delete_spec hw (l := cands w 4) (n := m) (b := 0) (lo := 0) (h := h') (by omega) hc1 (by omega) h0 (Nat.zero_le _) hn
    have hkl := keep_len w (cands w 4)
    obtain ⟨cs', s1, s2, hS⟩ := SortS_spec (l := keepS w (cands w 4)) (n := m) (lo := 0) (h := h'.set m (.cells true cs)) (by omega) (Nat.zero_le _) (List.getElem?_set_self (lt_of_some hn)) d1 d2
    rw [List.set_set] at hS
    have hz : fz (h'.set m (.cells true cs')) 0 (.hs m 0 (keepS w (cands w 4)).length 5) = some (.list .s T) := by
      rw [← hT]
      have e := sortS_len (keepS w (cands w 4))
      refine fz_hsx (Nat.zero_le _) (List.getElem?_set_self (lt_of_some hn)) (by rw [List.length_map, stepsF, e]) s2 s1 (flenS fS_len _) fS_scal
    have h43 : ¬ (((4 : Nat) : Int) ≤ 3) := by decide
    simp -implicitDefEqProofs only [act_Steps_b0, go_sem, ↓reduceIte, reduceCtorEq, Int.reduceLT, Int.reduceLE, Int.reduceToNat, Nat.reduceAdd, Nat.reduceMul, Nat.reduceLeDiff, Nat.reduceLT, Nat.reduceSub, Int.reduceNeg, Int.reduceEq, Int.reduceBEq, Int.reduceBNe, Nat.reduceEqDiff, h43, hD, hS, hz]
    exact hP1
end Vg.G3
