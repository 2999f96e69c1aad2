import Derived.Test.YtpoofafddbcnpaaVHB
namespace Vg.G3
open Go Lg
set_option linter.unusedSimpArgs false
set_option linter.unusedVariables false
set_option maxRecDepth 10000
set_option maxHeartbeats 4000000
attribute [local congr] bind_congr1
attribute [local go_sem] act_Steps_r0 act_Steps_r1 act_Steps_r2 act_Steps_r3 act_Steps_r4 act_Steps_r5 act_Steps_r6 act_Steps_r7 act_Steps_r8 act_Steps_r9 act_Steps_r10 act_Steps_r11 act_Steps_r12 act_Steps_r13 act_Steps_r14 act_Steps_r15 act_Steps_r16 act_Steps_r17 act_Steps_r18 act_Steps_r19 act_Steps_r20 act_Steps_r21 act_Steps_r22 act_Steps_r23 act_Steps_f act_Steps_v
def candP (k a : Int) (n : Nat) : List Stp := (List.range n).map fun (p : Nat) => ⟨k, a, p, -1, 0⟩
def candS (k a : Int) (n : Nat) : List Stp := (List.range n).map fun (s : Nat) => ⟨k, a, -1, s, 0⟩
def candA (w : Wd) (k : Int) (a : Nat) : List Stp := candP k a w.pl.length ++ candS k a w.sl.toNat
def candK (w : Wd) (k : Int) (n : Nat) : List Stp := (List.range n).flatMap (candA w k)
def cands (w : Wd) (n : Nat) : List Stp := (List.range n).flatMap fun (k : Nat) => candK w k w.sp.length
theorem candP_succ (k a : Int) (n : Nat) : candP k a (n + 1) = candP k a n ++ [⟨k, a, n, -1, 0⟩] := by unfold candP; rw [List.range_succ, List.map_append]; rfl
theorem candS_succ (k a : Int) (n : Nat) : candS k a (n + 1) = candS k a n ++ [⟨k, a, -1, n, 0⟩] := by unfold candS; rw [List.range_succ, List.map_append]; rfl
theorem candK_succ (w : Wd) (k : Int) (n : Nat) : candK w k (n + 1) = candK w k n ++ candA w k n := by unfold candK; rw [List.range_succ, List.flatMap_append]; simp
theorem cands_succ (w : Wd) (n : Nat) : cands w (n + 1) = cands w n ++ candK w n w.sp.length := by unfold cands; rw [List.range_succ, List.flatMap_append]; simp
theorem candP_len (k a : Int) (n : Nat) : (candP k a n).length = n := by simp [candP]
theorem candS_len (k a : Int) (n : Nat) : (candS k a n).length = n := by simp [candS]
theorem candK_len (w : Wd) (k : Int) (n : Nat) : (candK w k n).length = n * (w.pl.length + w.sl.toNat) := by
  induction n with
  | zero => simp [candK]
  | succ n ih => rw [candK_succ, List.length_append, ih, candA, List.length_append, candP_len, candS_len, Nat.succ_mul]
theorem cands_len (w : Wd) (n : Nat) : (cands w n).length = n * (w.sp.length * (w.pl.length + w.sl.toNat)) := by
  induction n with
  | zero => simp [cands]
  | succ n ih => rw [cands_succ, List.length_append, ih, candK_len, Nat.succ_mul]
/-- Steps that are being gathered. -/
def BS (w : Wd) (acc : List Stp) (v : VV) (h : VHeap) : Prop := h[0]? = some (.cells true (fW w)) ∧ ((acc = [] ∧ v = .list .f []) ∨ ∃ m, 1 ≤ acc.length ∧ 0 < m ∧ v = .hs m 0 acc.length 5 ∧ h[m]? = some (.cells true (acc.map fS).flatten))
theorem BS_new {w : Wd} {v : VV} {h : VHeap} (hb : BS w [] v h) (x : Stp) : BS w [x] (.hs h.length 0 1 5) (h ++ [.cells true (fS x)]) := by
  have h0 := hb.1
  refine ⟨ap_low h0, .inr ⟨h.length, Nat.le_refl 1, lt_of_some h0, rfl, ?_⟩⟩
  rw [List.getElem?_concat_length]; simp
theorem BS_add {w : Wd} {acc : List Stp} {m : Nat} {h : VHeap} (h0 : h[0]? = some (.cells true (fW w))) (hm : 0 < m) (x : Stp) : BS w (acc ++ [x]) (.hs h.length 0 (acc.length + 1) 5) (h.set m .dead ++ [.cells true ((acc.map fS).flatten ++ fS x)]) := by
  refine ⟨ap_low (by rw [List.getElem?_set_ne (by omega)]; exact h0), .inr ⟨h.length, by simp, lt_of_some h0, by simp, ?_⟩⟩
  have : h.length = (h.set m VBlk.dead).length := by simp
  rw [this, List.getElem?_concat_length]; simp
theorem S_room {n : Nat} (h : n ≤ 2000) : (n + 1 + 512) * 40 ≤ 140737488355328 := Nat.le_trans (Nat.mul_le_mul_right 40 (show n + 1 + 512 ≤ 3000 by omega)) (by decide)
theorem Steps_b2 {w : Wd} {acc : List Stp} {v : VV} {h : VHeap} {k a : Int} (hacc : acc.length + w.pl.length ≤ 2000) (hB : BS w acc v h) (Q : Out × VEnv × VHeap → Prop)
    (hQ : ∀ v' h', BS w (acc ++ candP k a w.pl.length) v' h' → Q (.exit 4, (VV.undef :: (.ptr 0 0 : VV) :: VV.undef :: (v' : VV) :: (.int .i64 k : VV) :: (.int .i64 a : VV) :: VV.undef :: VV.undef :: VV.undef :: VV.undef :: VV.undef :: VV.undef :: VV.undef :: VV.undef :: VV.undef :: VV.undef :: VV.undef :: (.int .i64 ((w.sp.length : Nat) : Int) : VV) :: (.int .i64 a : VV) :: VV.undef :: VV.undef :: VV.undef :: VV.undef :: (.int .i64 ((w.pl.length : Nat) : Int) : VV) :: (.int .i64 ((w.pl.length : Nat) : Int) : VV) :: (.bool false : VV) :: VV.undef :: VV.undef :: VV.undef :: VV.undef :: VV.undef :: VV.undef :: VV.undef :: VV.undef :: VV.undef :: VV.undef :: VV.undef :: VV.undef :: VV.undef :: VV.undef :: VV.undef :: VV.undef :: VV.undef :: VV.undef :: VV.undef :: VV.undef :: VV.undef :: VV.undef :: VV.undef :: VV.undef :: VV.undef :: VV.undef :: VV.undef :: VV.undef :: VV.undef :: []), h')) :
    Sat (loopV (callVL vp) 0 [1, 3, 4, 5, 17, 18, 23, 24] act_Steps_b2 (VV.undef :: (.ptr 0 0 : VV) :: VV.undef :: (v : VV) :: (.int .i64 k : VV) :: (.int .i64 a : VV) :: VV.undef :: VV.undef :: VV.undef :: VV.undef :: VV.undef :: VV.undef :: VV.undef :: VV.undef :: VV.undef :: VV.undef :: VV.undef :: (.int .i64 ((w.sp.length : Nat) : Int) : VV) :: (.int .i64 a : VV) :: VV.undef :: VV.undef :: VV.undef :: VV.undef :: (.int .i64 ((w.pl.length : Nat) : Int) : VV) :: (.int .i64 0 : VV) :: VV.undef :: VV.undef :: VV.undef :: VV.undef :: VV.undef :: VV.undef :: VV.undef :: VV.undef :: VV.undef :: VV.undef :: VV.undef :: VV.undef :: VV.undef :: VV.undef :: VV.undef :: VV.undef :: VV.undef :: VV.undef :: VV.undef :: VV.undef :: VV.undef :: VV.undef :: VV.undef :: VV.undef :: VV.undef :: VV.undef :: VV.undef :: VV.undef :: VV.undef :: VV.undef :: []) h) Q := by
  refine loop_up (I := fun j env h' => ∃ v', BS w (acc ++ candP k a j) v' h' ∧ env = (VV.undef :: (.ptr 0 0 : VV) :: VV.undef :: (v' : VV) :: (.int .i64 k : VV) :: (.int .i64 a : VV) :: VV.undef :: VV.undef :: VV.undef :: VV.undef :: VV.undef :: VV.undef :: VV.undef :: VV.undef :: VV.undef :: VV.undef :: VV.undef :: (.int .i64 ((w.sp.length : Nat) : Int) : VV) :: (.int .i64 a : VV) :: VV.undef :: VV.undef :: VV.undef :: VV.undef :: (.int .i64 ((w.pl.length : Nat) : Int) : VV) :: (.int .i64 ((j : Nat) : Int) : VV) :: VV.undef :: VV.undef :: VV.undef :: VV.undef :: VV.undef :: VV.undef :: VV.undef :: VV.undef :: VV.undef :: VV.undef :: VV.undef :: VV.undef :: VV.undef :: VV.undef :: VV.undef :: VV.undef :: VV.undef :: VV.undef :: VV.undef :: VV.undef :: VV.undef :: VV.undef :: VV.undef :: VV.undef :: VV.undef :: VV.undef :: VV.undef :: VV.undef :: VV.undef :: VV.undef :: [])) w.pl.length ?_ ?_ (Nat.zero_le _) ⟨v, by simpa [candP] using hB, by simp -implicitDefEqProofs only [go_sem, ↓reduceIte, reduceCtorEq, Int.reduceLT, Int.reduceLE, Int.reduceToNat, Nat.reduceAdd, Nat.reduceMul, Nat.reduceLeDiff, Nat.reduceLT, Nat.reduceSub, Int.reduceNeg, Int.reduceEq, Int.reduceBEq, Int.reduceBNe, Nat.reduceEqDiff]⟩
  · rintro j env h' hj ⟨v', hB', rfl⟩
    have hj' : (j : Int) < (w.pl.length : Int) := by omega
    have hw := wrap_succ (i := j) (by omega)
    have hl : (acc ++ candP k a j).length ≤ 2000 := by rw [List.length_append, candP_len]; omega
    rw [candP_succ, ← List.append_assoc]
    generalize acc ++ candP k a j = A at *
    have hsh := showS_of A
    have hx := show ([VV.int .i64 k, .int .i64 a, .int .i64 ((j : Nat) : Int), .int .i64 (-1), .int .i64 0].map fun c => c.sh.ow) = [VV.int .i64 k, .int .i64 a, .int .i64 ((j : Nat) : Int), .int .i64 (-1), .int .i64 0] from rfl
    obtain ⟨h0, ⟨rfl, rfl⟩ | ⟨m, h1, hm, rfl, hn⟩⟩ := id hB'
    · have hN := BS_new hB' ⟨k, a, j, -1, 0⟩
      simp -implicitDefEqProofs only [act_Steps_b2, act_Steps_b3, act_Steps_b1, act_Steps_b0, go_sem, ↓reduceIte, reduceCtorEq, Int.reduceLT, Int.reduceLE, Int.reduceToNat, Nat.reduceAdd, Nat.reduceMul, Nat.reduceLeDiff, Nat.reduceLT, Nat.reduceSub, Int.reduceNeg, Int.reduceEq, Int.reduceBEq, Int.reduceBNe, Nat.reduceEqDiff, hj', hw]
      refine ⟨_, ?_, rfl⟩
      exact hN
    · have hN := BS_add h0 hm (acc := A) ⟨k, a, j, -1, 0⟩
      have hr := S_room hl
      have hc := cellsS_len A
      have hle : A.length * 5 ≤ (A.map fS).flatten.length := by omega
      have ht : (A.map fS).flatten.take (A.length * 5) = (A.map fS).flatten := List.take_of_length_le (by omega)
      simp -implicitDefEqProofs only [act_Steps_b2, act_Steps_b3, act_Steps_b1, act_Steps_b0, go_sem, ↓reduceIte, reduceCtorEq, Int.reduceLT, Int.reduceLE, Int.reduceToNat, Nat.reduceAdd, Nat.reduceMul, Nat.reduceLeDiff, Nat.reduceLT, Nat.reduceSub, Int.reduceNeg, Int.reduceEq, Int.reduceBEq, Int.reduceBNe, Nat.reduceEqDiff, hj', hw, hn, hr, hle, ht]
      refine ⟨_, ?_, rfl⟩
      rw [List.map_append, hsh]
      exact hN
  · rintro env h' ⟨v', hB', rfl⟩
    simp -implicitDefEqProofs only [act_Steps_b2, act_Steps_b3, act_Steps_b1, act_Steps_b0, go_sem, ↓reduceIte, reduceCtorEq, Int.reduceLT, Int.reduceLE, Int.reduceToNat, Nat.reduceAdd, Nat.reduceMul, Nat.reduceLeDiff, Nat.reduceLT, Nat.reduceSub, Int.reduceNeg, Int.reduceEq, Int.reduceBEq, Int.reduceBNe, Nat.reduceEqDiff, Int.lt_irrefl]
    exact hQ v' h' hB'
theorem Steps_b3 {w : Wd} {acc : List Stp} {v : VV} {h : VHeap} {k a : Int} (hsl : 0 ≤ w.sl) (hacc : acc.length + w.sl.toNat ≤ 2000) (hB : BS w acc v h) (Q : Out × VEnv × VHeap → Prop)
    (hQ : ∀ v' h', BS w (acc ++ candS k a w.sl.toNat) v' h' → Q (.exit 6, (VV.undef :: (.ptr 0 0 : VV) :: VV.undef :: (v' : VV) :: (.int .i64 k : VV) :: (.int .i64 a : VV) :: VV.undef :: VV.undef :: VV.undef :: VV.undef :: VV.undef :: VV.undef :: VV.undef :: VV.undef :: VV.undef :: VV.undef :: VV.undef :: (.int .i64 ((w.sp.length : Nat) : Int) : VV) :: (.int .i64 a : VV) :: VV.undef :: VV.undef :: VV.undef :: VV.undef :: VV.undef :: VV.undef :: VV.undef :: VV.undef :: VV.undef :: VV.undef :: VV.undef :: VV.undef :: VV.undef :: VV.undef :: VV.undef :: VV.undef :: VV.undef :: (.int .i64 w.sl : VV) :: (.int .i64 ((w.sl.toNat : Nat) : Int) : VV) :: (.bool false : VV) :: VV.undef :: VV.undef :: VV.undef :: VV.undef :: VV.undef :: VV.undef :: VV.undef :: VV.undef :: VV.undef :: VV.undef :: VV.undef :: VV.undef :: VV.undef :: VV.undef :: VV.undef :: VV.undef :: []), h')) :
    Sat (loopV (callVL vp) 0 [1, 3, 4, 5, 17, 18, 36, 37] act_Steps_b3 (VV.undef :: (.ptr 0 0 : VV) :: VV.undef :: (v : VV) :: (.int .i64 k : VV) :: (.int .i64 a : VV) :: VV.undef :: VV.undef :: VV.undef :: VV.undef :: VV.undef :: VV.undef :: VV.undef :: VV.undef :: VV.undef :: VV.undef :: VV.undef :: (.int .i64 ((w.sp.length : Nat) : Int) : VV) :: (.int .i64 a : VV) :: VV.undef :: VV.undef :: VV.undef :: VV.undef :: VV.undef :: VV.undef :: VV.undef :: VV.undef :: VV.undef :: VV.undef :: VV.undef :: VV.undef :: VV.undef :: VV.undef :: VV.undef :: VV.undef :: VV.undef :: (.int .i64 w.sl : VV) :: (.int .i64 0 : VV) :: VV.undef :: VV.undef :: VV.undef :: VV.undef :: VV.undef :: VV.undef :: VV.undef :: VV.undef :: VV.undef :: VV.undef :: VV.undef :: VV.undef :: VV.undef :: VV.undef :: VV.undef :: VV.undef :: VV.undef :: []) h) Q := by
  refine loop_up (I := fun j env h' => ∃ v', BS w (acc ++ candS k a j) v' h' ∧ env = (VV.undef :: (.ptr 0 0 : VV) :: VV.undef :: (v' : VV) :: (.int .i64 k : VV) :: (.int .i64 a : VV) :: VV.undef :: VV.undef :: VV.undef :: VV.undef :: VV.undef :: VV.undef :: VV.undef :: VV.undef :: VV.undef :: VV.undef :: VV.undef :: (.int .i64 ((w.sp.length : Nat) : Int) : VV) :: (.int .i64 a : VV) :: VV.undef :: VV.undef :: VV.undef :: VV.undef :: VV.undef :: VV.undef :: VV.undef :: VV.undef :: VV.undef :: VV.undef :: VV.undef :: VV.undef :: VV.undef :: VV.undef :: VV.undef :: VV.undef :: VV.undef :: (.int .i64 w.sl : VV) :: (.int .i64 ((j : Nat) : Int) : VV) :: VV.undef :: VV.undef :: VV.undef :: VV.undef :: VV.undef :: VV.undef :: VV.undef :: VV.undef :: VV.undef :: VV.undef :: VV.undef :: VV.undef :: VV.undef :: VV.undef :: VV.undef :: VV.undef :: VV.undef :: [])) w.sl.toNat ?_ ?_ (Nat.zero_le _) ⟨v, by simpa [candS] using hB, by simp -implicitDefEqProofs only [go_sem, ↓reduceIte, reduceCtorEq, Int.reduceLT, Int.reduceLE, Int.reduceToNat, Nat.reduceAdd, Nat.reduceMul, Nat.reduceLeDiff, Nat.reduceLT, Nat.reduceSub, Int.reduceNeg, Int.reduceEq, Int.reduceBEq, Int.reduceBNe, Nat.reduceEqDiff]⟩
  · rintro j env h' hj ⟨v', hB', rfl⟩
    have hj' : (j : Int) < w.sl := by omega
    have hw := wrap_succ (i := j) (by omega)
    have hl : (acc ++ candS k a j).length ≤ 2000 := by rw [List.length_append, candS_len]; omega
    rw [candS_succ, ← List.append_assoc]
    generalize acc ++ candS k a j = A at *
    have hsh := showS_of A
    have hx := show ([VV.int .i64 k, .int .i64 a, .int .i64 (-1), .int .i64 ((j : Nat) : Int), .int .i64 0].map fun c => c.sh.ow) = [VV.int .i64 k, .int .i64 a, .int .i64 (-1), .int .i64 ((j : Nat) : Int), .int .i64 0] from rfl
    obtain ⟨h0, ⟨rfl, rfl⟩ | ⟨m, h1, hm, rfl, hn⟩⟩ := id hB'
    · have hN := BS_new hB' ⟨k, a, -1, j, 0⟩
      simp -implicitDefEqProofs only [act_Steps_b2, act_Steps_b3, act_Steps_b1, act_Steps_b0, go_sem, ↓reduceIte, reduceCtorEq, Int.reduceLT, Int.reduceLE, Int.reduceToNat, Nat.reduceAdd, Nat.reduceMul, Nat.reduceLeDiff, Nat.reduceLT, Nat.reduceSub, Int.reduceNeg, Int.reduceEq, Int.reduceBEq, Int.reduceBNe, Nat.reduceEqDiff, hj', hw]
      refine ⟨_, ?_, rfl⟩
      exact hN
    · have hN := BS_add h0 hm (acc := A) ⟨k, a, -1, j, 0⟩
      have hr := S_room hl
      have hc := cellsS_len A
      have hle : A.length * 5 ≤ (A.map fS).flatten.length := by omega
      have ht : (A.map fS).flatten.take (A.length * 5) = (A.map fS).flatten := List.take_of_length_le (by omega)
      simp -implicitDefEqProofs only [act_Steps_b2, act_Steps_b3, act_Steps_b1, act_Steps_b0, go_sem, ↓reduceIte, reduceCtorEq, Int.reduceLT, Int.reduceLE, Int.reduceToNat, Nat.reduceAdd, Nat.reduceMul, Nat.reduceLeDiff, Nat.reduceLT, Nat.reduceSub, Int.reduceNeg, Int.reduceEq, Int.reduceBEq, Int.reduceBNe, Nat.reduceEqDiff, hj', hw, hn, hr, hle, ht]
      refine ⟨_, ?_, rfl⟩
      rw [List.map_append, hsh]
      exact hN
  · rintro env h' ⟨v', hB', rfl⟩
    have hnn : ((w.sl.toNat : Nat) : Int) = w.sl := Int.toNat_of_nonneg hsl
    rw [← hnn] at hQ ⊢
    simp -implicitDefEqProofs only [act_Steps_b2, act_Steps_b3, act_Steps_b1, act_Steps_b0, go_sem, ↓reduceIte, reduceCtorEq, Int.reduceLT, Int.reduceLE, Int.reduceToNat, Nat.reduceAdd, Nat.reduceMul, Nat.reduceLeDiff, Nat.reduceLT, Nat.reduceSub, Int.reduceNeg, Int.reduceEq, Int.reduceBEq, Int.reduceBNe, Nat.reduceEqDiff, Int.lt_irrefl]
    exact hQ v' h' hB'
end Vg.G3
