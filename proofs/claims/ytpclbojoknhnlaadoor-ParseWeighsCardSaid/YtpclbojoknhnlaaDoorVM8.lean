import Derived.Test.YtpclbojoknhnlaaDoorVM4
import Derived.Test.YtpclbojoknhnlaaDoorVP6
namespace Vg.G3
open Go Lg Vg.Nm
set_option linter.unusedSimpArgs false
set_option linter.unusedVariables false
set_option maxRecDepth 10000
set_option maxHeartbeats 8000000
attribute [local congr] bind_congr1
attribute [local go_sem] parse_plain_r0 parse_plain_r1 parse_plain_r2 parse_plain_r3 parse_plain_r4 parse_plain_r5 parse_plain_r6 parse_plain_r7 parse_plain_r8 parse_plain_r9 parse_plain_r10 parse_plain_r11 parse_plain_f parse_plain_v parse_shape_r0 parse_shape_r1 parse_shape_r2 parse_shape_r3 parse_shape_r4 parse_shape_r5 parse_shape_r6 parse_shape_r7 parse_shape_r8 parse_shape_r9 parse_shape_r10 parse_shape_r11 parse_shape_r12 parse_shape_r13 parse_shape_f parse_shape_v

theorem nm_part (i : Nat) : NM (partN i) := by unfold partN; split <;> exact ⟨by decide, by decide, by decide, by decide⟩
theorem nm_arm (i : Nat) : NM (armN i) := by unfold armN; split <;> exact ⟨by decide, by decide, by decide, by decide⟩
theorem nm_slot (i : Nat) : NM (slotN i) := by unfold slotN; split <;> exact ⟨by decide, by decide, by decide, by decide⟩
theorem gs_d {d : Nat} (h : 4 ≤ d) (h8 : d ≤ 8) : GS 1 d ∧ wn d = encB 1 ∧ wd d = encB d := by
  have hd : d = 4 ∨ d = 5 ∨ d = 6 ∨ d = 7 ∨ d = 8 := by omega
  have e1 : encB 1 = [1] := enc_one
  refine ⟨⟨by decide, by omega, by decide, by omega, Nat.gcd_one_left d⟩, ?_, ?_⟩
  · rw [e1]; unfold wn; rw [if_neg (by omega)]
  · unfold wd; rw [if_neg (by omega)]
    rcases hd with rfl | rfl | rfl | rfl | rfl <;> decide +kernel
theorem nm_ne {s : List UInt8} (g : NM s) : (s == []) = false := beq_ne g.h0
/-- A leaf of the generator is right. -/
theorem plain_leaf {a p s : Nat} {l : Leaf} (g : l.ok a p s) (lo : Nat) (h : VHeap) : callVL vp lo n_parse_plain [.agg l.row] h = some (.int .i64 0, h) := by
  cases l with
  | put i j d =>
    have n1 := nm_part i
    have n2 := nm_slot j
    by_cases hd : d = 0
    · subst hd
      have w1 : wn 0 = [] := rfl
      have w2 : wd 0 = [] := rfl
      refine call_valE (fn := parse_plain_v) rfl rfl rfl rfl rfl ?_ lo h
      have m1 := n1.name
      have m2 := n2.name
      have e1 := nm_ne n1
      have e2 := nm_ne n2
      unfold Leaf.row
      simp only [Leaf.kind, Leaf.A, Leaf.B, Leaf.d, Leaf.n, w1, w2]
      generalize partN i = A at *
      generalize slotN j = B at *
      simp -implicitDefEqProofs (maxSteps := 1000000) only [go_sem, ↓reduceIte, reduceCtorEq, Int.reduceLT, Int.reduceLE, Int.reduceToNat, Nat.reduceAdd, Nat.reduceMul, Nat.reduceLeDiff, Nat.reduceLT, Nat.reduceSub, Int.reduceNeg, Int.reduceEq, Int.reduceBEq, Int.reduceBNe, Nat.reduceEqDiff, m1, m2, e1, e2, nil_nil]
    · obtain ⟨gs, w1, w2⟩ := gs_d (d := d) (by simp only [Leaf.ok] at g; omega) (by simp only [Leaf.ok] at g; omega)
      have := plain_put n1 n2 gs (by decide) (by have := g.2.2; omega) lo h
      unfold putV at this
      unfold Leaf.row
      simp only [Leaf.kind, Leaf.A, Leaf.B, Leaf.d, Leaf.n, w1, w2]
      exact this
  | hold i j =>
    have n1 := nm_part i
    have n2 := nm_arm j
    have w1 : wn 0 = [] := rfl
    have w2 : wd 0 = [] := rfl
    refine call_valE (fn := parse_plain_v) rfl rfl rfl rfl rfl ?_ lo h
    have m1 := n1.name
    have m2 := n2.name
    have e1 := nm_ne n1
    have e2 := nm_ne n2
    unfold Leaf.row
    simp only [Leaf.kind, Leaf.A, Leaf.B, Leaf.d, Leaf.n, w1, w2]
    generalize partN i = A at *
    generalize armN j = B at *
    simp -implicitDefEqProofs (maxSteps := 1000000) only [go_sem, ↓reduceIte, reduceCtorEq, Int.reduceLT, Int.reduceLE, Int.reduceToNat, Nat.reduceAdd, Nat.reduceMul, Nat.reduceLeDiff, Nat.reduceLT, Nat.reduceSub, Int.reduceNeg, Int.reduceEq, Int.reduceBEq, Int.reduceBNe, Nat.reduceEqDiff, m1, m2, e1, e2, nil_nil]
  | free j =>
    have n1 := nm_arm j
    have w1 : wn 0 = [] := rfl
    have w2 : wd 0 = [] := rfl
    refine call_valE (fn := parse_plain_v) rfl rfl rfl rfl rfl ?_ lo h
    have m1 := n1.name
    have e1 := nm_ne n1
    unfold Leaf.row
    simp only [Leaf.kind, Leaf.A, Leaf.B, Leaf.d, Leaf.n, w1, w2]
    generalize armN j = A at *
    simp -implicitDefEqProofs (maxSteps := 1000000) only [go_sem, ↓reduceIte, reduceCtorEq, Int.reduceLT, Int.reduceLE, Int.reduceToNat, Nat.reduceAdd, Nat.reduceMul, Nat.reduceLeDiff, Nat.reduceLT, Nat.reduceSub, Int.reduceNeg, Int.reduceEq, Int.reduceBEq, Int.reduceBNe, Nat.reduceEqDiff, m1, e1, nil_nil]
  | see i =>
    have n1 := nm_part i
    have w1 : wn 0 = [] := rfl
    have w2 : wd 0 = [] := rfl
    refine call_valE (fn := parse_plain_v) rfl rfl rfl rfl rfl ?_ lo h
    have m1 := n1.name
    have e1 := nm_ne n1
    unfold Leaf.row
    simp only [Leaf.kind, Leaf.A, Leaf.B, Leaf.d, Leaf.n, w1, w2]
    generalize partN i = A at *
    simp -implicitDefEqProofs (maxSteps := 1000000) only [go_sem, ↓reduceIte, reduceCtorEq, Int.reduceLT, Int.reduceLE, Int.reduceToNat, Nat.reduceAdd, Nat.reduceMul, Nat.reduceLeDiff, Nat.reduceLT, Nat.reduceSub, Int.reduceNeg, Int.reduceEq, Int.reduceBEq, Int.reduceBNe, Nat.reduceEqDiff, m1, e1, nil_nil]
  | wait n =>
    have w1 : wn 0 = [] := rfl
    have w2 : wd 0 = [] := rfl
    refine call_valE (fn := parse_plain_v) rfl rfl rfl rfl rfl ?_ lo h
    unfold Leaf.row
    simp only [Leaf.kind, Leaf.A, Leaf.B, Leaf.d, Leaf.n, w1, w2]
    have hn : n = 1 ∨ n = 2 ∨ n = 3 := by simp only [Leaf.ok] at g; omega
    have c1 : ((1 : Nat) : Int) = 1 := rfl
    have c2 : ((2 : Nat) : Int) = 2 := rfl
    have c3 : ((3 : Nat) : Int) = 3 := rfl
    rcases hn with rfl | rfl | rfl <;> simp -implicitDefEqProofs (maxSteps := 1000000) only [go_sem, ↓reduceIte, reduceCtorEq, Int.reduceLT, Int.reduceLE, Int.reduceToNat, Nat.reduceAdd, Nat.reduceMul, Nat.reduceLeDiff, Nat.reduceLT, Nat.reduceSub, Int.reduceNeg, Int.reduceEq, Int.reduceBEq, Int.reduceBNe, Nat.reduceEqDiff, nil_nil, c1, c2, c3]
/-- The blocks of a statement with blocks are as many as its kind asks for. -/
structure SH (k n len : Nat) : Prop where
  ok : (k = 6 ∧ n = 0 ∧ len = 1) ∨ (k = 7 ∧ 1 ≤ n ∧ n ≤ 5 ∧ len = 1) ∨ (k = 8 ∧ n = 0 ∧ 1 ≤ len ∧ len ≤ 4) ∨ (k = 9 ∧ n = 0 ∧ len = 2)
theorem SH.of {k n len : Nat} (h : shapeOk k n len) : SH k n len := ⟨by unfold shapeOk at h; omega⟩
theorem shape_blk {k n : Nat} {R : List (List VV)} (g : SH k n R.length) (lo : Nat) (h : VHeap) : callVL vp lo n_parse_shape [.agg [.int .i64 (k : Nat), .str [], .str [], .bool false, .str [], .str [], .int .i64 (n : Nat), .list .s R]] h = some (.int .i64 0, h) := by
  refine call_valE (fn := parse_shape_v) rfl rfl rfl rfl rfl ?_ lo h
  have c0 : ((0 : Nat) : Int) = 0 := rfl
  have c6 : ((6 : Nat) : Int) = 6 := rfl
  have c7 : ((7 : Nat) : Int) = 7 := rfl
  have c8 : ((8 : Nat) : Int) = 8 := rfl
  have c9 : ((9 : Nat) : Int) = 9 := rfl
  have c1 : ((1 : Nat) : Int) = 1 := rfl
  have c2 : ((2 : Nat) : Int) = 2 := rfl
  rcases g.ok with ⟨rfl, rfl, hl⟩ | ⟨rfl, h1, h2, hl⟩ | ⟨rfl, rfl, h1, h2⟩ | ⟨rfl, rfl, hl⟩
  · simp -implicitDefEqProofs (maxSteps := 1000000) only [go_sem, ↓reduceIte, reduceCtorEq, Int.reduceLT, Int.reduceLE, Int.reduceToNat, Nat.reduceAdd, Nat.reduceMul, Nat.reduceLeDiff, Nat.reduceLT, Nat.reduceSub, Int.reduceNeg, Int.reduceEq, Int.reduceBEq, Int.reduceBNe, Nat.reduceEqDiff, nil_nil, c0, c6, hl, c1]
  · have g1 : ¬ ((n : Int) < 1) := by omega
    have g2 : ¬ (5 < (n : Int)) := by omega
    simp -implicitDefEqProofs (maxSteps := 1000000) only [go_sem, ↓reduceIte, reduceCtorEq, Int.reduceLT, Int.reduceLE, Int.reduceToNat, Nat.reduceAdd, Nat.reduceMul, Nat.reduceLeDiff, Nat.reduceLT, Nat.reduceSub, Int.reduceNeg, Int.reduceEq, Int.reduceBEq, Int.reduceBNe, Nat.reduceEqDiff, nil_nil, c7, hl, c1, g1, g2]
  · have g1 : ¬ ((R.length : Int) < 1) := by omega
    have g2 : ¬ (4 < (R.length : Int)) := by omega
    simp -implicitDefEqProofs (maxSteps := 1000000) only [go_sem, ↓reduceIte, reduceCtorEq, Int.reduceLT, Int.reduceLE, Int.reduceToNat, Nat.reduceAdd, Nat.reduceMul, Nat.reduceLeDiff, Nat.reduceLT, Nat.reduceSub, Int.reduceNeg, Int.reduceEq, Int.reduceBEq, Int.reduceBNe, Nat.reduceEqDiff, nil_nil, c0, c8, g1, g2]
  · simp -implicitDefEqProofs (maxSteps := 1000000) only [go_sem, ↓reduceIte, reduceCtorEq, Int.reduceLT, Int.reduceLE, Int.reduceToNat, Nat.reduceAdd, Nat.reduceMul, Nat.reduceLeDiff, Nat.reduceLT, Nat.reduceSub, Int.reduceNeg, Int.reduceEq, Int.reduceBEq, Int.reduceBNe, Nat.reduceEqDiff, nil_nil, c0, c9, hl, c2]
end Vg.G3
namespace Vg.G3
open Go Lg Vg.Nm
set_option linter.unusedSimpArgs false
set_option linter.unusedVariables false
set_option maxRecDepth 10000
set_option maxHeartbeats 8000000
attribute [local congr] bind_congr1
attribute [local go_sem] parse_stmts_r0 parse_stmts_r1 parse_stmts_r2 parse_stmts_r3 parse_stmts_r4 parse_stmts_r5 parse_stmts_r6 parse_stmts_r7 parse_stmts_r8 parse_stmts_r9 parse_stmts_r10 parse_stmts_r11 parse_stmts_r12 parse_stmts_r13 parse_stmts_r14 parse_stmts_f parse_stmts_v parse_stmt_r0 parse_stmt_r1 parse_stmt_r2 parse_stmt_r3 parse_stmt_r4 parse_stmt_r5 parse_stmt_r6 parse_stmt_r7 parse_stmt_r8 parse_stmt_r9 parse_stmt_r10 parse_stmt_r11 parse_stmt_r12 parse_stmt_r13 parse_stmt_r14 parse_stmt_r15 parse_stmt_r16 parse_stmt_r17 parse_stmt_r18 parse_stmt_r19 parse_stmt_f parse_stmt_v

theorem cast0 : ((0 : Nat) : Int) = 0 := rfl
theorem cast1 : ((1 : Nat) : Int) = 1 := rfl
theorem le_sum {l : List Nat} {x : Nat} (h : x ∈ l) : x ≤ l.sum := by
  induction l with
  | nil => cases h
  | cons a l ih =>
    rw [List.sum_cons]
    rcases List.mem_cons.1 h with rfl | h
    · omega
    · have := ih h; omega
theorem sum_take_succ {l : List Nat} {i x : Nat} (h : l[i]? = some x) : (l.take (i + 1)).sum = (l.take i).sum + x := by
  rw [List.take_add_one, h, List.sum_append]; simp
theorem sum_take_le (l : List Nat) (i : Nat) : (l.take i).sum ≤ l.sum := by
  have h : l.sum = (l.take i ++ l.drop i).sum := by rw [List.take_append_drop]
  rw [h, List.sum_append]; omega
/-- A statement that weighs w is right. -/
def StOk (s : St) (dp : Int) (w : Nat) : Prop := w ≤ 100 ∧ ∀ lo h, callVL vp lo n_parse_stmt [.agg s.row, .int .i64 dp] h = some (.tup [.int .i64 (w : Nat), .int .i64 0], h)
def big (w : Nat) : VV := .tup [.int .i64 ((if w ≤ 100 then w else 0 : Nat) : Int), .int .i64 (if w ≤ 100 then 0 else 2)]
/-- stmts. -/
theorem pstmts_spec (L : List St) {dp : Int} (hdp : ¬ 5 < dp) (hL : L.length ≤ 1000) (hW : ∀ s ∈ L, StOk s dp s.wt) (lo : Nat) (h : VHeap) : callVL vp lo n_parse_stmts [.list .s (L.map St.row), .int .i64 dp] h = some (big (L.map St.wt).sum, h) := by
  refine call_valE (fn := parse_stmts_v) rfl rfl rfl rfl rfl ?_ lo h
  obtain ⟨P, hP⟩ : ∃ P : VV → Prop, P = fun w : VV => w = big (L.map St.wt).sum := ⟨_, rfl⟩
  have hP1 : (L.map St.wt).sum ≤ 100 → P (.tup [.int .i64 (((L.map St.wt).sum : Nat) : Int), .int .i64 0]) := fun h => by subst hP; unfold big; rw [if_pos h, if_pos h]
  have hP2 : ¬ (L.map St.wt).sum ≤ 100 → P (.tup [.int .i64 0, .int .i64 2]) := fun h => by subst hP; unfold big; rw [if_neg h, if_neg h]; rfl
  have hP3 : (fun r : VV × VHeap => r.1 = big (L.map St.wt).sum) = fun r => P r.1 := by subst hP; rfl
  rw [hP3]
  clear hP hP3
  have hlen : (L.map St.row).length = L.length := List.length_map _
  simp -implicitDefEqProofs only [go_sem, ↓reduceIte, reduceCtorEq, Int.reduceLT, Int.reduceLE, Int.reduceToNat, Nat.reduceAdd, Nat.reduceMul, Nat.reduceLeDiff, Nat.reduceLT, Nat.reduceSub, Int.reduceNeg, Int.reduceEq, Int.reduceBEq, Int.reduceBNe, Nat.reduceEqDiff, hdp, hlen]
  rw [Sat_bind]
  refine loop_up (I := fun i env h' => h' = [] ∧ ((L.map St.wt).take i).sum ≤ 100 ∧ env = [.undef, .int .i64 dp, .undef, .undef, .undef, .undef, .int .i64 ((((L.map St.wt).take i).sum : Nat) : Int), .undef, .undef, .undef, .undef, .undef, .undef, .list .s (L.map St.row), .int .i64 ((L.length : Nat) : Int), .int .i64 ((i : Nat) : Int), .undef, .undef, .undef, .undef, .undef, .undef, .undef, .undef, .undef, .undef, .undef, .undef, .undef, .undef, .undef, .undef, .undef, .undef, .undef]) L.length ?_ ?_ (Nat.zero_le _) ⟨rfl, by simp, by simp -implicitDefEqProofs only [go_sem, ↓reduceIte, reduceCtorEq, Int.reduceLT, Int.reduceLE, Int.reduceToNat, Nat.reduceAdd, Nat.reduceMul, Nat.reduceLeDiff, Nat.reduceLT, Nat.reduceSub, Int.reduceNeg, Int.reduceEq, Int.reduceBEq, Int.reduceBNe, Nat.reduceEqDiff, List.take_zero, List.sum_nil, cast0]⟩
  · rintro i env h' hi ⟨rfl, hs, rfl⟩
    have hi' : (i : Int) < (L.length : Int) := by omega
    obtain ⟨x, hx⟩ : ∃ x, L[i]? = some x := ⟨L[i], List.getElem?_eq_getElem hi⟩
    have hg := get_map (F := St.row) hx
    have hx2 : (L.map St.wt)[i]? = some x.wt := by rw [List.getElem?_map, hx]; rfl
    obtain ⟨w100, hw⟩ := hW x (List.mem_of_getElem? hx)
    have hsum := sum_take_succ hx2
    have hle := sum_take_le (L.map St.wt) (i + 1)
    obtain ⟨k, A, B, n, d, N, bs, hr⟩ := x.row_x
    rw [hr] at hg hw
    clear hr hW hx2
    generalize ((L.map St.wt).take i).sum = S at *
    generalize x.wt = w at *
    have ws : IntKind.i64.wrap ((S : Int) + (w : Int)) = ((S + w : Nat) : Int) := by rw [wrap_id (by omega) (by omega)]; rfl
    have wi := wrap_succ (i := i) (by omega)
    by_cases hb : S + w ≤ 100
    · have hb' : ¬ (100 : Int) < ((S + w : Nat) : Int) := by omega
      simp -implicitDefEqProofs only [parse_stmts_b0, go_sem, ↓reduceIte, reduceCtorEq, Int.reduceLT, Int.reduceLE, Int.reduceToNat, Nat.reduceAdd, Nat.reduceMul, Nat.reduceLeDiff, Nat.reduceLT, Nat.reduceSub, Int.reduceNeg, Int.reduceEq, Int.reduceBEq, Int.reduceBNe, Nat.reduceEqDiff, hi', hg, hw, ws, wi, hb', hsum, hb]
    · have hb' : (100 : Int) < ((S + w : Nat) : Int) := by omega
      have hP4 := hP2 (by omega)
      simp -implicitDefEqProofs only [parse_stmts_b0, go_sem, ↓reduceIte, reduceCtorEq, Int.reduceLT, Int.reduceLE, Int.reduceToNat, Nat.reduceAdd, Nat.reduceMul, Nat.reduceLeDiff, Nat.reduceLT, Nat.reduceSub, Int.reduceNeg, Int.reduceEq, Int.reduceBEq, Int.reduceBNe, Nat.reduceEqDiff, hi', hg, hw, ws, wi, hb']
      exact hP4
  · rintro env h' ⟨rfl, hs, rfl⟩
    rw [show (L.map St.wt).take L.length = L.map St.wt from List.take_of_length_le (by rw [List.length_map]; exact Nat.le_refl _)] at hs ⊢
    have hP5 := hP1 hs
    generalize (L.map St.wt).sum = S at *
    simp -implicitDefEqProofs only [parse_stmts_b0, go_sem, ↓reduceIte, reduceCtorEq, Int.reduceLT, Int.reduceLE, Int.reduceToNat, Nat.reduceAdd, Nat.reduceMul, Nat.reduceLeDiff, Nat.reduceLT, Nat.reduceSub, Int.reduceNeg, Int.reduceEq, Int.reduceBEq, Int.reduceBNe, Nat.reduceEqDiff, Int.lt_irrefl]
    exact hP5
/-- stmt, of a statement with blocks. -/
theorem pblk_spec {k n : Nat} {L : List Sl} {dp : Int} (hd0 : 0 ≤ dp) (hd5 : dp ≤ 100) (g : SH k n L.length) (hW : ∀ l ∈ L, l.wt ≤ 100 ∧ ∀ lo h, callVL vp lo n_parse_stmts [.list .s l.rows, .int .i64 (dp + 1)] h = some (.tup [.int .i64 (l.wt : Nat), .int .i64 0], h)) (lo : Nat) (h : VHeap) :
    callVL vp lo n_parse_stmt [.agg [.int .i64 (k : Nat), .str [], .str [], .bool false, .str [], .str [], .int .i64 (n : Nat), .list .s (L.map fun l => [.list .s l.rows])], .int .i64 dp] h = some (big (1 + (L.map Sl.wt).sum * max n 1), h) := by
  refine call_valE (fn := parse_stmt_v) rfl rfl rfl rfl rfl ?_ lo h
  obtain ⟨W, hWW⟩ : ∃ W, W = 1 + (L.map Sl.wt).sum * max n 1 := ⟨_, rfl⟩
  rw [← hWW]
  obtain ⟨P, hP⟩ : ∃ P : VV → Prop, P = fun w : VV => w = big W := ⟨_, rfl⟩
  have hP1 : W ≤ 100 → P (.tup [.int .i64 ((W : Nat) : Int), .int .i64 0]) := fun h => by subst hP; unfold big; rw [if_pos h, if_pos h]
  have hP2 : ¬ W ≤ 100 → P (.tup [.int .i64 0, .int .i64 2]) := fun h => by subst hP; unfold big; rw [if_neg h, if_neg h]; rfl
  have hP3 : (fun r : VV × VHeap => r.1 = big W) = fun r => P r.1 := by subst hP; rfl
  rw [hP3]
  clear hP hP3
  have hlen : (L.map fun l => [VV.list .s l.rows]).length = L.length := List.length_map _
  have hS := shape_blk (R := L.map fun l => [VV.list .s l.rows]) (k := k) (n := n) (by rw [hlen]; exact g)
  have hk := g.ok
  have k1 : ¬ ((k : Int) < 1) := by omega
  have k2 : ¬ (9 < (k : Int)) := by omega
  have k3 : ¬ ((k : Int) < 6) := by omega
  have n5 : n ≤ 5 := by omega
  have L4 : L.length ≤ 4 := by omega
  have wd : IntKind.i64.wrap (dp + 1) = dp + 1 := wrap_id (by omega) (by omega)
  simp -implicitDefEqProofs only [go_sem, ↓reduceIte, reduceCtorEq, Int.reduceLT, Int.reduceLE, Int.reduceToNat, Nat.reduceAdd, Nat.reduceMul, Nat.reduceLeDiff, Nat.reduceLT, Nat.reduceSub, Int.reduceNeg, Int.reduceEq, Int.reduceBEq, Int.reduceBNe, Nat.reduceEqDiff, hS, k1, k2, k3, hlen]
  rw [Sat_bind]
  refine loop_up (I := fun i env h' => h' = [.cells true [.int .i64 (k : Nat), .str [], .str [], .bool false, .str [], .str [], .int .i64 (n : Nat), .list .s (L.map fun l => [.list .s l.rows])]] ∧ 1 + ((L.map Sl.wt).take i).sum * max n 1 ≤ 100 ∧ env = (VV.undef :: (.int .i64 dp : VV) :: (.ptr 0 0 : VV) :: VV.undef :: VV.undef :: VV.undef :: VV.undef :: (.int .i64 ((1 + ((L.map Sl.wt).take i).sum * max n 1 : Nat) : Int) : VV) :: VV.undef :: VV.undef :: VV.undef :: VV.undef :: VV.undef :: VV.undef :: VV.undef :: VV.undef :: VV.undef :: VV.undef :: VV.undef :: VV.undef :: VV.undef :: VV.undef :: VV.undef :: VV.undef :: VV.undef :: VV.undef :: VV.undef :: VV.undef :: VV.undef :: VV.undef :: VV.undef :: (.list .s (L.map fun l => [.list .s l.rows]) : VV) :: (.int .i64 ((L.length : Nat) : Int) : VV) :: (.int .i64 ((i : Nat) : Int) : VV) :: VV.undef :: VV.undef :: VV.undef :: VV.undef :: VV.undef :: VV.undef :: VV.undef :: VV.undef :: VV.undef :: VV.undef :: VV.undef :: VV.undef :: VV.undef :: VV.undef :: VV.undef :: VV.undef :: VV.undef :: VV.undef :: VV.undef :: VV.undef :: VV.undef :: VV.undef :: VV.undef :: VV.undef :: [])) L.length ?_ ?_ (Nat.zero_le _) ⟨rfl, by simp, by simp -implicitDefEqProofs only [go_sem, ↓reduceIte, reduceCtorEq, Int.reduceLT, Int.reduceLE, Int.reduceToNat, Nat.reduceAdd, Nat.reduceMul, Nat.reduceLeDiff, Nat.reduceLT, Nat.reduceSub, Int.reduceNeg, Int.reduceEq, Int.reduceBEq, Int.reduceBNe, Nat.reduceEqDiff, List.take_zero, List.sum_nil, Nat.zero_mul, cast1]⟩
  · rintro i env h' hi ⟨rfl, hs, rfl⟩
    have hi' : (i : Int) < (L.length : Int) := by omega
    obtain ⟨x, hx⟩ : ∃ x, L[i]? = some x := ⟨L[i], List.getElem?_eq_getElem hi⟩
    have hg := get_map (F := fun l : Sl => [VV.list .s l.rows]) hx
    have hx2 : (L.map Sl.wt)[i]? = some x.wt := by rw [List.getElem?_map, hx]; rfl
    obtain ⟨w100, hw⟩ := hW x (List.mem_of_getElem? hx)
    have hsum : 1 + ((L.map Sl.wt).take (i + 1)).sum * max n 1 = 1 + ((L.map Sl.wt).take i).sum * max n 1 + x.wt * max n 1 := by rw [sum_take_succ hx2, Nat.add_mul]; omega
    have hle := Nat.mul_le_mul_right (max n 1) (sum_take_le (L.map Sl.wt) (i + 1))
    have hmx : max (n : Int) 1 = ((max n 1 : Nat) : Int) := by omega
    have hwm : x.wt * max n 1 ≤ 500 := Nat.le_trans (Nat.mul_le_mul w100 (show max n 1 ≤ 5 by omega)) (by decide)
    have hwe : ((x.wt : Nat) : Int) * ((max n 1 : Nat) : Int) = ((x.wt * max n 1 : Nat) : Int) := by rw [Int.natCast_mul]
    clear hW hx2 hP1
    rw [hsum]
    generalize 1 + ((L.map Sl.wt).take i).sum * max n 1 = S at *
    generalize x.rows = R at *
    generalize hX : x.wt * max n 1 = X at *
    have wm : IntKind.i64.wrap ((X : Nat) : Int) = ((X : Nat) : Int) := wrap_id (by omega) (by omega)
    have ws : IntKind.i64.wrap ((S : Int) + (X : Int)) = ((S + X : Nat) : Int) := by rw [wrap_id (by omega) (by omega)]; rfl
    have wi := wrap_succ (i := i) (by omega)
    by_cases hb : S + X ≤ 100
    · have hb' : ¬ (100 : Int) < ((S + X : Nat) : Int) := by omega
      simp -implicitDefEqProofs only [parse_stmt_b0, go_sem, ↓reduceIte, reduceCtorEq, Int.reduceLT, Int.reduceLE, Int.reduceToNat, Nat.reduceAdd, Nat.reduceMul, Nat.reduceLeDiff, Nat.reduceLT, Nat.reduceSub, Int.reduceNeg, Int.reduceEq, Int.reduceBEq, Int.reduceBNe, Nat.reduceEqDiff, hi', hg, hw, wd, hmx, hwe, wm, ws, wi, hb', hb]
    · have hb' : (100 : Int) < ((S + X : Nat) : Int) := by omega
      have hP4 := hP2 (by omega)
      simp -implicitDefEqProofs only [parse_stmt_b0, go_sem, ↓reduceIte, reduceCtorEq, Int.reduceLT, Int.reduceLE, Int.reduceToNat, Nat.reduceAdd, Nat.reduceMul, Nat.reduceLeDiff, Nat.reduceLT, Nat.reduceSub, Int.reduceNeg, Int.reduceEq, Int.reduceBEq, Int.reduceBNe, Nat.reduceEqDiff, hi', hg, hw, wd, hmx, hwe, wm, ws, wi, hb']
      exact hP4
  · rintro env h' ⟨rfl, hs, rfl⟩
    rw [show (L.map Sl.wt).take L.length = L.map Sl.wt from List.take_of_length_le (by rw [List.length_map]; exact Nat.le_refl _), ← hWW] at hs ⊢
    have hP5 := hP1 hs
    simp -implicitDefEqProofs only [parse_stmt_b0, go_sem, ↓reduceIte, reduceCtorEq, Int.reduceLT, Int.reduceLE, Int.reduceToNat, Nat.reduceAdd, Nat.reduceMul, Nat.reduceLeDiff, Nat.reduceLT, Nat.reduceSub, Int.reduceNeg, Int.reduceEq, Int.reduceBEq, Int.reduceBNe, Nat.reduceEqDiff, Int.lt_irrefl]
    exact hP5
theorem pleaf_spec {a p s : Nat} {l : Leaf} (g : l.ok a p s) (dp : Int) : StOk (.leaf l) dp 1 := by
  refine ⟨by decide, fun lo h => ?_⟩
  refine call_valE (fn := parse_stmt_v) rfl rfl rfl rfl rfl ?_ lo h
  have hp := plain_leaf g
  have hk : 1 ≤ l.kind ∧ l.kind ≤ 5 := by cases l <;> simp only [Leaf.kind] <;> omega
  have k1 : ¬ l.kind < 1 := by omega
  have k2 : ¬ 9 < l.kind := by omega
  have k3 : l.kind < 6 := by omega
  rw [St.row]
  unfold Leaf.row at *
  generalize l.kind = K at *
  generalize l.A = A at *
  generalize l.B = B at *
  generalize wn l.d = n at *
  generalize wd l.d = d at *
  generalize l.n = N at *
  simp -implicitDefEqProofs only [parse_stmt_b0, go_sem, ↓reduceIte, reduceCtorEq, Int.reduceLT, Int.reduceLE, Int.reduceToNat, Nat.reduceAdd, Nat.reduceMul, Nat.reduceLeDiff, Nat.reduceLT, Nat.reduceSub, Int.reduceNeg, Int.reduceEq, Int.reduceBEq, Int.reduceBNe, Nat.reduceEqDiff, hp, k1, k2, k3, cast1]
/-- How much a statement with so many levels of blocks may weigh. -/
def wMax : Nat → Nat
  | 0 => 1
  | v + 1 => 1 + 2 * (2 * wMax v)
theorem sum_le_mul {l : List Nat} {m : Nat} (h : ∀ x ∈ l, x ≤ m) : l.sum ≤ l.length * m := by
  induction l with
  | nil => simp
  | cons a l ih =>
    rw [List.sum_cons, List.length_cons, Nat.succ_mul]
    have := h a (List.mem_cons_self ..)
    have := ih fun x hx => h x (List.mem_cons_of_mem _ hx)
    omega
theorem wt_le {a p s : Nat} : ∀ (v : Nat) (x : St), x.ok a p s v → x.wt ≤ wMax v
  | v, .leaf l, _ => by
    rw [St.wt]
    induction v with
    | zero => exact Nat.le_refl _
    | succ v ih => simp only [wMax]; omega
  | v, .blk k n bs, h => by
    simp only [St.ok] at h
    obtain ⟨u, rfl, hs, hb⟩ := h
    have hl : ∀ l ∈ bs.list, l.wt ≤ 2 * wMax u := fun l hl => by
      obtain ⟨-, h2, h3⟩ := Bs.ok_mem bs hb l hl
      rw [Sl.wt_eq]
      refine Nat.le_trans (sum_le_mul fun x hx => ?_) (Nat.mul_le_mul_right (wMax u) (show (l.list.map St.wt).length ≤ 2 by rw [List.length_map, Sl.list_len]; exact h2))
      obtain ⟨y, hy, rfl⟩ := List.mem_map.1 hx
      exact wt_le u y (Sl.ok_mem l h3 y hy)
    rw [St.wt, Bs.wt_eq]
    have h1 : (bs.list.map Sl.wt).sum ≤ bs.len * (2 * wMax u) := by
      rw [← Bs.list_len, ← List.length_map (f := Sl.wt)]
      exact sum_le_mul fun x hx => by obtain ⟨y, hy, rfl⟩ := List.mem_map.1 hx; exact hl y hy
    simp only [wMax]
    unfold shapeOk at hs
    have h2 : (bs.list.map Sl.wt).sum * max n 1 ≤ 2 * (2 * wMax u) := by
      rcases hs with ⟨_, rfl, hl⟩ | ⟨_, h1', h2', hl⟩ | ⟨_, rfl, hl⟩ | ⟨_, rfl, hl⟩ <;> rw [hl] at h1
      · rw [show max 0 1 = 1 from rfl, Nat.mul_one]; omega
      · rw [Nat.mul_comm 2]; exact Nat.mul_le_mul (by omega) (by omega)
      · rw [show max 0 1 = 1 from rfl, Nat.mul_one]; omega
      · rw [show max 0 1 = 1 from rfl, Nat.mul_one]; omega
    omega
theorem st_ok {a p s : Nat} : ∀ (v : Nat), v ≤ 2 → ∀ (x : St), x.ok a p s v → ∀ dp : Int, 0 ≤ dp → dp + (v : Nat) ≤ 5 → StOk x dp x.wt
  | v, hv, .leaf l, h, dp, h0, h5 => by rw [St.wt]; exact pleaf_spec (by simpa only [St.ok] using h) dp
  | v, hv, .blk k n bs, h, dp, h0, h5 => by
    have hw := wt_le v (.blk k n bs) h
    have hm : wMax v ≤ 21 := by
      have : v = 0 ∨ v = 1 ∨ v = 2 := by omega
      rcases this with rfl | rfl | rfl <;> decide
    simp only [St.ok] at h
    obtain ⟨u, rfl, hs, hb⟩ := h
    refine ⟨by omega, fun lo h => ?_⟩
    rw [St.wt] at hw ⊢
    rw [St.row, Bs.rows_eq]
    have hl : ∀ l ∈ bs.list, l.wt ≤ 42 := fun l hl => by
      have h1 : (bs.list.map Sl.wt).sum ≤ (bs.list.map Sl.wt).sum * max n 1 := Nat.le_mul_of_pos_right _ (by omega)
      have h2 : l.wt ≤ (bs.list.map Sl.wt).sum := le_sum (List.mem_map_of_mem hl)
      rw [Bs.wt_eq] at hw
      omega
    have := pblk_spec (k := k) (n := n) (L := bs.list) (dp := dp) h0 (by omega) (SH.of (by rw [Bs.list_len]; exact hs)) (fun l hm' => ⟨by have := hl l hm'; omega, fun lo h => by
      obtain ⟨g1, g2, g3⟩ := Bs.ok_mem bs hb l hm'
      have := pstmts_spec l.list (dp := dp + 1) (by omega) (by rw [Sl.list_len]; omega) (fun x hx => st_ok u (by omega) x (Sl.ok_mem l g3 x hx) (dp + 1) (by omega) (by omega)) lo h
      rw [← Sl.rows_eq, ← Sl.wt_eq] at this
      rw [this]
      unfold big
      rw [if_pos (by have := hl l hm'; omega), if_pos (by have := hl l hm'; omega)]⟩) lo h
    rw [this, ← Bs.wt_eq]
    unfold big
    rw [if_pos (by omega), if_pos (by omega)]
end Vg.G3
namespace Vg.G3
open Go Lg Vg.Nm
set_option linter.unusedSimpArgs false
set_option linter.unusedVariables false
set_option maxRecDepth 10000
set_option maxHeartbeats 8000000
attribute [local congr] bind_congr1
attribute [local go_sem] parse_Leaves_1_r0 parse_Leaves_1_r1 parse_Leaves_1_r2 parse_Leaves_1_r3 parse_Leaves_1_r4 parse_Leaves_1_r5 parse_Leaves_1_r6 parse_Leaves_1_r7 parse_Leaves_1_r8 parse_Leaves_1_r9 parse_Leaves_1_r10 parse_Leaves_1_f parse_Leaves_1_v

mutual
def St.leaves : St → List Leaf
  | .leaf l => [l]
  | .blk _ _ bs => bs.leaves
def Sl.leaves : Sl → List Leaf
  | .nil => []
  | .cons s l => s.leaves ++ l.leaves
def Bs.leaves : Bs → List Leaf
  | .nil => []
  | .cons l b => l.leaves ++ b.leaves
end
theorem Sl.leaves_eq : (l : Sl) → l.leaves = l.list.flatMap St.leaves
  | .nil => rfl
  | .cons s l => by simp only [Sl.leaves, Sl.list, List.flatMap_cons, Sl.leaves_eq l]
theorem Bs.leaves_eq : (b : Bs) → b.leaves = b.list.flatMap Sl.leaves
  | .nil => rfl
  | .cons l b => by simp only [Bs.leaves, Bs.list, List.flatMap_cons, Bs.leaves_eq b]
/-- Heaps with one block that changes, and a function's. -/
structure HO (lo o w n : Nat) (hp : VBlk → VHeap) : Prop where
  len : ∀ x, (hp x).length = n
  lo : lo ≤ o
  on : o < n
  wn : w < n
  get : ∀ x, (hp x)[o]? = some x
  set : ∀ x y, (hp x).set o y = hp y
  fn : ∀ x, (hp x)[w]? = some (.cells true [.func n_parse_Leaves_1 [.ptr o 0, .ptr w 0]])
section
variable {lo o w n : Nat} {hp : VBlk → VHeap}
theorem HO.app (H : HO lo o w n hp) (l : VHeap) : HO lo o w (n + l.length) (fun x => hp x ++ l) := by
  have h1 := H.on
  have h2 := H.wn
  refine ⟨fun x => by rw [List.length_append, H.len], H.lo, by omega, by omega, fun x => ?_, fun x y => ?_, fun x => ?_⟩
  · show (hp x ++ l)[o]? = _
    rw [List.getElem?_append_left (by rw [H.len]; exact h1)]; exact H.get x
  · show (hp x ++ l).set o _ = hp y ++ l
    rw [List.set_append_left _ _ (by rw [H.len]; exact h1), H.set]
  · show (hp x ++ l)[w]? = _
    rw [List.getElem?_append_left (by rw [H.len]; exact h2)]; exact H.fn x
theorem HO.get0 (H : HO lo o w n hp) (x : VBlk) (l : VHeap) : (hp x ++ l)[n]? = l[0]? := by rw [← H.len x]; exact ap_get0
theorem HO.getk (H : HO lo o w n hp) (x : VBlk) (l : VHeap) (k : Nat) : (hp x ++ l)[n + k]? = l[k]? := by rw [← H.len x]; exact ap_get
theorem HO.set0 (H : HO lo o w n hp) (x : VBlk) (l : VHeap) (b : VBlk) : (hp x ++ l).set n b = hp x ++ l.set 0 b := by rw [← H.len x]; exact ap_set0
theorem HO.take (H : HO lo o w n hp) (x : VBlk) (l : VHeap) : (hp x ++ l).take n = hp x := by rw [← H.len x]; exact ap_take
theorem HO.takek (H : HO lo o w n hp) (x : VBlk) (l : VHeap) (k : Nat) : (hp x ++ l).take (n + k) = hp x ++ l.take k := by rw [← H.len x, List.take_length_add_append]
theorem HO.onk (H : HO lo o w n hp) (k : Nat) : (o < n + k) = True := eq_true (by have := H.on; omega)
theorem HO.wnk (H : HO lo o w n hp) (k : Nat) : (w < n + k) = True := eq_true (by have := H.wn; omega)
theorem HO.lo0 (H : HO lo o w n hp) : (lo ≤ n) = True := eq_true (by have := H.lo; have := H.on; omega)
theorem HO.on' (H : HO lo o w n hp) : (o < n) = True := eq_true H.on
theorem HO.wn' (H : HO lo o w n hp) : (w < n) = True := eq_true H.wn
end
def outB (R : List (List VV)) : VBlk := .cells true [.list .o R]
/-- The walk over a list. -/
def WalkOk (L : List St) : Prop := ∀ (lo o w n : Nat) (hp : VBlk → VHeap), HO lo o w n hp → ∀ (d : Int) (R : List (List VV)), (∀ r ∈ R, r.length = 8) → R.length + (L.flatMap St.leaves).length ≤ 1000 →
  callVL vp lo n_parse_Leaves_1 [.list .s (L.map St.row), .int .i64 d, .ptr o 0, .ptr w 0] (hp (outB R)) = some (.tup [], hp (outB (R ++ (L.flatMap St.leaves).map Leaf.row)))
theorem all8 {R : List (List VV)} (h : ∀ r ∈ R, r.length = 8) : (R.all fun x => decide (x.length = 8)) = true := by rw [List.all_eq_true]; intro r hr; exact decide_eq_true (h r hr)
theorem flat_take {α β : Type} {F : α → List β} {l : List α} {i : Nat} {x : α} (h : l[i]? = some x) : (l.take (i + 1)).flatMap F = (l.take i).flatMap F ++ F x := by
  rw [List.take_add_one, h, List.flatMap_append]; simp
theorem flat_len_le {α β : Type} {F : α → List β} (l : List α) (i : Nat) : ((l.take i).flatMap F).length ≤ (l.flatMap F).length := by
  have h : l.flatMap F = (l.take i ++ l.drop i).flatMap F := by rw [List.take_append_drop]
  rw [h, List.flatMap_append, List.length_append]; omega
theorem mem_rows8 {R : List (List VV)} (h : ∀ r ∈ R, r.length = 8) (l : List Leaf) : ∀ r ∈ R ++ l.map Leaf.row, r.length = 8 := by
  intro r hr
  rcases List.mem_append.1 hr with hr | hr
  · exact h r hr
  · obtain ⟨x, _, rfl⟩ := List.mem_map.1 hr; rfl
theorem walk_list {L : List St} (hL : L.length ≤ 1000) (hK : ∀ x ∈ L, ∀ l, x = .leaf l → l.kind < 6) (hB : ∀ x ∈ L, ∀ k n bs, x = .blk k n bs → 6 ≤ k ∧ bs.list.length ≤ 1000 ∧ ∀ l ∈ bs.list, WalkOk l.list) : WalkOk L := by
  intro lo o w n hp H d R hR hroom
  obtain ⟨P, hP⟩ : ∃ P : VV × VHeap → Prop, P = fun r => r = (.tup [], hp (outB (R ++ (L.flatMap St.leaves).map Leaf.row))) := ⟨_, rfl⟩
  have key := call_body (p := vp) (lo := lo) (h := hp (outB R)) (f := n_parse_Leaves_1) (fn := parse_Leaves_1_v) (args := [.list .s (L.map St.row), .int .i64 d, .ptr o 0, .ptr w 0]) (P := P) rfl (.inl rfl) rfl ?_
  · obtain ⟨r, hr, hp⟩ := key; subst hP; rw [hr, hp]
  have hP1 : P (.tup [], hp (outB (R ++ (L.flatMap St.leaves).map Leaf.row))) := by subst hP; rfl
  clear hP
  have hlen := H.len
  have g0 := H.get0
  have s0 := H.set0
  have tk := H.take
  have l0 := H.lo0
  have on := H.on'
  have hwn := H.wn'
  have hg := fun x l => (H.app l).get x
  have hs := fun x y l => (H.app l).set x y
  have hf := fun x l => (H.app l).fn x
  have hg' := H.get
  have tkk := H.takek
  have onk := H.onk
  have wnk := H.wnk
  have tk' := fun x => H.take x []
  simp only [List.append_nil] at tk'
  have hlo : (lo ≤ o) = True := eq_true H.lo
  have hll : (L.map St.row).length = L.length := List.length_map _
  simp -implicitDefEqProofs only [go_sem, ↓reduceIte, reduceCtorEq, Int.reduceLT, Int.reduceLE, Int.reduceToNat, Nat.reduceAdd, Nat.reduceMul, Nat.reduceLeDiff, Nat.reduceLT, Nat.reduceSub, Int.reduceNeg, Int.reduceEq, Int.reduceBEq, Int.reduceBNe, Nat.reduceEqDiff, hlen, hll]
  rw [Sat_bind]
  refine loop_up (I := fun i env h' => h' = hp (outB (R ++ ((L.take i).flatMap St.leaves).map Leaf.row)) ∧ env = [.undef, .int .i64 d, .ptr o 0, .ptr w 0, .undef, .undef, .undef, .undef, .undef, .undef, .list .s (L.map St.row), .int .i64 ((L.length : Nat) : Int), .int .i64 ((i : Nat) : Int), .undef, .undef, .undef, .undef, .undef, .undef, .undef, .undef, .undef, .undef, .undef, .undef, .undef, .undef, .undef, .undef, .undef, .undef, .undef, .undef, .undef, .undef, .undef, .undef]) L.length ?_ ?_ (Nat.zero_le _) ⟨by simp only [List.take_zero, List.flatMap_nil, List.map_nil, List.append_nil], by simp -implicitDefEqProofs only [go_sem, ↓reduceIte, reduceCtorEq, Int.reduceLT, Int.reduceLE, Int.reduceToNat, Nat.reduceAdd, Nat.reduceMul, Nat.reduceLeDiff, Nat.reduceLT, Nat.reduceSub, Int.reduceNeg, Int.reduceEq, Int.reduceBEq, Int.reduceBNe, Nat.reduceEqDiff, cast0]⟩
  · rintro i env h' hi ⟨rfl, rfl⟩
    have hi' : (i : Int) < (L.length : Int) := by omega
    obtain ⟨x, hx⟩ : ∃ x, L[i]? = some x := ⟨L[i], List.getElem?_eq_getElem hi⟩
    have hgx := get_map (F := St.row) hx
    have hmem := List.mem_of_getElem? hx
    have hft := flat_take (F := St.leaves) hx
    have hle := flat_len_le (F := St.leaves) L (i + 1)
    rw [hft, List.length_append] at hle
    have hR' := mem_rows8 hR ((L.take i).flatMap St.leaves)
    have hRl : (R ++ ((L.take i).flatMap St.leaves).map Leaf.row).length = R.length + ((L.take i).flatMap St.leaves).length := by rw [List.length_append, List.length_map]
    have wi := wrap_succ (i := i) (by omega)
    rw [hft, List.map_append, ← List.append_assoc]
    generalize R ++ ((L.take i).flatMap St.leaves).map Leaf.row = T at *
    cases x with
    | leaf l =>
      have hk := hK _ hmem l rfl
      rw [St.row] at hgx
      simp only [St.leaves, List.map_cons, List.map_nil] at hle ⊢
      have ha := all8 hR'
      have hro : (T.length + 1 + 512) * 112 ≤ 140737488355328 := by simp only [List.length_cons, List.length_nil] at hle; omega
      unfold Leaf.row at hgx ⊢
      generalize l.kind = K at *
      generalize l.A = A at *
      generalize l.B = B at *
      generalize wn l.d = n' at *
      generalize wd l.d = d' at *
      generalize l.n = N at *
      unfold outB
      simp -implicitDefEqProofs only [parse_Leaves_1_b1, parse_Leaves_1_b0, go_sem, ↓reduceIte, reduceCtorEq, Int.reduceLT, Int.reduceLE, Int.reduceToNat, Nat.reduceAdd, Nat.reduceMul, Nat.reduceLeDiff, Nat.reduceLT, Nat.reduceSub, Int.reduceNeg, Int.reduceEq, Int.reduceBEq, Int.reduceBNe, Nat.reduceEqDiff, loopV_eq, ↓thenV_norm, ↓thenV_exit, ↓thenV_ret, hlen, g0, s0, tk, tk', l0, on, hwn, hg, hs, hf, hg', hlo, tkk, onk, wnk, List.length_append, List.length_cons, List.length_nil, List.take_succ_cons, List.take_zero, Nat.zero_add, hi', hgx, hk, ha, hro, wi, Int.lt_irrefl, cast0]
    | blk k nn bs =>
      obtain ⟨hk6, hbl, hW⟩ := hB _ hmem k nn bs rfl
      rw [St.row, Bs.rows_eq] at hgx
      simp only [St.leaves] at hle ⊢
      rw [Bs.leaves_eq] at hle ⊢
      have hlb : (bs.list.map fun l => [VV.list .s l.rows]).length = bs.list.length := List.length_map _
      have hk' : ¬ (k : Int) < 6 := by omega
      simp -implicitDefEqProofs only [parse_Leaves_1_b0, go_sem, ↓reduceIte, reduceCtorEq, Int.reduceLT, Int.reduceLE, Int.reduceToNat, Nat.reduceAdd, Nat.reduceMul, Nat.reduceLeDiff, Nat.reduceLT, Nat.reduceSub, Int.reduceNeg, Int.reduceEq, Int.reduceBEq, Int.reduceBNe, Nat.reduceEqDiff, hlen, g0, s0, tk, tk', l0, on, hwn, hg, hs, hf, hg', hlo, tkk, onk, wnk, List.length_append, List.length_cons, List.length_nil, List.take_succ_cons, List.take_zero, Nat.zero_add, hi', hgx, hk', hlb]
      rw [Sat_bind]
      refine loop_up (I := fun j env h' => h' = hp (outB (T ++ ((bs.list.take j).flatMap Sl.leaves).map Leaf.row)) ++ [.cells true [.int .i64 (k : Nat), .str [], .str [], .bool false, .str [], .str [], .int .i64 (nn : Nat), .list .s (bs.list.map fun l => [.list .s l.rows])]] ∧ env = [.undef, .int .i64 d, .ptr o 0, .ptr w 0, .undef, .undef, .undef, .undef, .undef, .undef, .list .s (L.map St.row), .int .i64 ((L.length : Nat) : Int), .int .i64 ((i : Nat) : Int), .undef, .undef, .undef, .undef, .undef, .undef, .undef, .undef, .undef, .undef, .undef, .list .s (bs.list.map fun l => [.list .s l.rows]), .int .i64 ((bs.list.length : Nat) : Int), .int .i64 ((j : Nat) : Int), .undef, .undef, .undef, .undef, .undef, .undef, .undef, .undef, .undef, .undef]) bs.list.length ?_ ?_ (Nat.zero_le _) ⟨by simp only [List.take_zero, List.flatMap_nil, List.map_nil, List.append_nil], by simp -implicitDefEqProofs only [go_sem, ↓reduceIte, reduceCtorEq, Int.reduceLT, Int.reduceLE, Int.reduceToNat, Nat.reduceAdd, Nat.reduceMul, Nat.reduceLeDiff, Nat.reduceLT, Nat.reduceSub, Int.reduceNeg, Int.reduceEq, Int.reduceBEq, Int.reduceBNe, Nat.reduceEqDiff, cast0]⟩
      · rintro j env h' hj ⟨rfl, rfl⟩
        have hj' : (j : Int) < (bs.list.length : Int) := by omega
        obtain ⟨y, hy⟩ : ∃ y, bs.list[j]? = some y := ⟨bs.list[j], List.getElem?_eq_getElem hj⟩
        have hgy := get_map (F := fun l : Sl => [VV.list .s l.rows]) hy
        have hft2 := flat_take (F := Sl.leaves) hy
        have hle2 := flat_len_le (F := Sl.leaves) bs.list (j + 1)
        rw [hft2, List.length_append] at hle2
        have hc := fun d c => hW y (List.mem_of_getElem? hy) lo o w _ _ (H.app [c]) d (T ++ ((bs.list.take j).flatMap Sl.leaves).map Leaf.row) (mem_rows8 hR' _) (by rw [List.length_append, List.length_map, ← Sl.leaves_eq]; omega)
        rw [← Sl.leaves_eq, ← Sl.rows_eq] at hc
        have wj := wrap_succ (i := j) (by omega)
        rw [hft2, List.map_append, ← List.append_assoc]
        generalize T ++ ((bs.list.take j).flatMap Sl.leaves).map Leaf.row = T2 at *
        simp -implicitDefEqProofs only [parse_Leaves_1_b1, parse_Leaves_1_b0, go_sem, ↓reduceIte, reduceCtorEq, Int.reduceLT, Int.reduceLE, Int.reduceToNat, Nat.reduceAdd, Nat.reduceMul, Nat.reduceLeDiff, Nat.reduceLT, Nat.reduceSub, Int.reduceNeg, Int.reduceEq, Int.reduceBEq, Int.reduceBNe, Nat.reduceEqDiff, hlen, g0, s0, tk, tk', l0, on, hwn, hg, hs, hf, hg', hlo, tkk, onk, wnk, List.length_append, List.length_cons, List.length_nil, List.take_succ_cons, List.take_zero, Nat.zero_add, hj', hgy, hc, wj]
      · rintro env h' ⟨rfl, rfl⟩
        rw [List.take_length]
        simp -implicitDefEqProofs only [parse_Leaves_1_b1, parse_Leaves_1_b0, go_sem, ↓reduceIte, reduceCtorEq, Int.reduceLT, Int.reduceLE, Int.reduceToNat, Nat.reduceAdd, Nat.reduceMul, Nat.reduceLeDiff, Nat.reduceLT, Nat.reduceSub, Int.reduceNeg, Int.reduceEq, Int.reduceBEq, Int.reduceBNe, Nat.reduceEqDiff, hlen, g0, s0, tk, tk', l0, on, hwn, hg, hs, hf, hg', hlo, tkk, onk, wnk, List.length_append, List.length_cons, List.length_nil, List.take_succ_cons, List.take_zero, Nat.zero_add, wi, Int.lt_irrefl]
  · rintro env h' ⟨rfl, rfl⟩
    rw [List.take_length]
    simp -implicitDefEqProofs only [parse_Leaves_1_b1, parse_Leaves_1_b0, go_sem, ↓reduceIte, reduceCtorEq, Int.reduceLT, Int.reduceLE, Int.reduceToNat, Nat.reduceAdd, Nat.reduceMul, Nat.reduceLeDiff, Nat.reduceLT, Nat.reduceSub, Int.reduceNeg, Int.reduceEq, Int.reduceBEq, Int.reduceBNe, Nat.reduceEqDiff, hlen, g0, s0, tk, tk', l0, on, hwn, hg, hs, hf, hg', hlo, tkk, onk, wnk, List.length_append, List.length_cons, List.length_nil, List.take_succ_cons, List.take_zero, Nat.zero_add, Int.lt_irrefl]
    exact hP1
end Vg.G3
namespace Vg.G3
open Go Lg Vg.Nm
set_option linter.unusedSimpArgs false
set_option linter.unusedVariables false
set_option maxRecDepth 10000
set_option maxHeartbeats 8000000
attribute [local congr] bind_congr1
attribute [local go_sem] parse_Check_r0 parse_Check_r1 parse_Check_r2 parse_Check_r3 parse_Check_r4 parse_Check_f parse_Check_v parse_Leaves_r0 parse_Leaves_r1 parse_Leaves_r2 parse_Leaves_r3 parse_Leaves_r4 parse_Leaves_r5 parse_Leaves_r6 parse_Leaves_f parse_Leaves_v

theorem Leaf.kind_bnd (l : Leaf) : 1 ≤ l.kind ∧ l.kind ≤ 5 := by cases l <;> simp only [Leaf.kind] <;> omega
theorem walk_ok {a p s : Nat} : ∀ (v : Nat) (L : List St), L.length ≤ 1000 → (∀ x ∈ L, x.ok a p s v) → WalkOk L
  | v, L, hL, h => by
    refine walk_list hL (fun x hx l e => by have := l.kind_bnd; omega) fun x hx k n bs e => ?_
    have := h x hx
    subst e
    simp only [St.ok] at this
    obtain ⟨u, rfl, hs, hb⟩ := this
    unfold shapeOk at hs
    refine ⟨by omega, by rw [Bs.list_len]; omega, fun l hl => ?_⟩
    obtain ⟨g1, g2, g3⟩ := Bs.ok_mem bs hb l hl
    exact walk_ok u l.list (by rw [Sl.list_len]; omega) (Sl.ok_mem l g3)
mutual
theorem St.leaves_le : (x : St) → x.leaves.length ≤ x.wt
  | .leaf l => by simp only [St.leaves, St.wt, List.length_cons, List.length_nil]; omega
  | .blk k n bs => by
    simp only [St.leaves, St.wt]
    have h1 := Bs.leaves_le bs
    have h2 : bs.wt ≤ bs.wt * max n 1 := Nat.le_mul_of_pos_right _ (by omega)
    omega
theorem Sl.leaves_le : (x : Sl) → x.leaves.length ≤ x.wt
  | .nil => Nat.le_refl _
  | .cons s l => by simp only [Sl.leaves, Sl.wt, List.length_append]; have := St.leaves_le s; have := Sl.leaves_le l; omega
theorem Bs.leaves_le : (x : Bs) → x.leaves.length ≤ x.wt
  | .nil => Nat.le_refl _
  | .cons s l => by simp only [Bs.leaves, Bs.wt, List.length_append]; have := Sl.leaves_le s; have := Bs.leaves_le l; omega
end
mutual
theorem St.leaves_ok {a p s : Nat} : (x : St) → (v : Nat) → x.ok a p s v → ∀ l ∈ x.leaves, l.ok a p s
  | .leaf l, v, h => fun y hy => by
    simp only [St.leaves, List.mem_singleton] at hy
    subst hy
    simpa only [St.ok] using h
  | .blk k n bs, v, h => fun y hy => by
    simp only [St.ok] at h
    obtain ⟨u, _, _, hb⟩ := h
    simp only [St.leaves] at hy
    exact Bs.leaves_ok bs u hb y hy
theorem Sl.leaves_ok {a p s : Nat} : (x : Sl) → (v : Nat) → x.ok a p s v → ∀ l ∈ x.leaves, l.ok a p s
  | .nil, _, _ => fun _ h => by cases h
  | .cons s l, v, h => fun y hy => by
    simp only [Sl.ok] at h
    simp only [Sl.leaves, List.mem_append] at hy
    rcases hy with hy | hy
    · exact St.leaves_ok s v h.1 y hy
    · exact Sl.leaves_ok l v h.2 y hy
theorem Bs.leaves_ok {a p s : Nat} : (x : Bs) → (v : Nat) → x.ok a p s v → ∀ l ∈ x.leaves, l.ok a p s
  | .nil, _, _ => fun _ h => by cases h
  | .cons s l, v, h => fun y hy => by
    simp only [Bs.ok] at h
    simp only [Bs.leaves, List.mem_append] at hy
    rcases hy with hy | hy
    · exact Sl.leaves_ok s v h.1.2.2 y hy
    · exact Bs.leaves_ok l v h.2 y hy
end
/-- Check of a job. -/
theorem Check_spec {a p s : Nat} {nm : List UInt8} (hn : NM nm) {L : List St} (hL : L.length ≤ 1000) (hok : ∀ x ∈ L, x.ok a p s 2) (lo : Nat) (h : VHeap) : callVL vp lo n_parse_Check [.agg [.str nm, .list .s (L.map St.row)]] h = some (.int .i64 (if (L.map St.wt).sum ≤ 100 then 0 else 2), h) := by
  refine call_valE (fn := parse_Check_v) rfl rfl rfl rfl rfl ?_ lo h
  have hp := pstmts_spec L (dp := 1) (by decide) hL (fun x hx => st_ok 2 (Nat.le_refl _) x (hok x hx) 1 (by decide) (by decide))
  have hN := hn.name
  unfold big at hp
  generalize (if (L.map St.wt).sum ≤ 100 then (0 : Int) else 2) = E at *
  generalize (((if (L.map St.wt).sum ≤ 100 then (L.map St.wt).sum else 0 : Nat)) : Int) = F at *
  simp -implicitDefEqProofs only [go_sem, ↓reduceIte, reduceCtorEq, Int.reduceLT, Int.reduceLE, Int.reduceToNat, Nat.reduceAdd, Nat.reduceMul, Nat.reduceLeDiff, Nat.reduceLT, Nat.reduceSub, Int.reduceNeg, Int.reduceEq, Int.reduceBEq, Int.reduceBNe, Nat.reduceEqDiff, hp, hN]
/-- Leaves of a job. -/
theorem Leaves_spec {a p s : Nat} {nm : List UInt8} (hn : NM nm) {L : List St} (hL : L.length ≤ 1000) (hok : ∀ x ∈ L, x.ok a p s 2) (hw : (L.map St.wt).sum ≤ 100) (lo : Nat) (h : VHeap) : callVL vp lo n_parse_Leaves [.agg [.str nm, .list .s (L.map St.row)]] h = some (.list .s ((L.flatMap St.leaves).map Leaf.row), h) := by
  refine call_valE (fn := parse_Leaves_v) rfl rfl rfl rfl rfl ?_ lo h
  have hC := Check_spec hn hL hok
  rw [if_pos hw] at hC
  have hlv : (L.flatMap St.leaves).length ≤ (L.map St.wt).sum := by
    clear hL hok hw hC
    induction L with
    | nil => exact Nat.le_refl _
    | cons x L ih => rw [List.flatMap_cons, List.length_append, List.map_cons, List.sum_cons]; have := x.leaves_le; omega
  have hW := fun b0 => walk_ok 2 L hL hok 0 1 2 3 (fun x => [b0, x, .cells true [.func n_parse_Leaves_1 [.ptr 1 0, .ptr 2 0]]]) ⟨fun _ => rfl, by decide, by decide, by decide, fun _ => rfl, fun _ _ => rfl, fun _ => rfl⟩ 1 [] (fun _ h => by cases h) (by simp only [List.length_nil]; omega)
  simp only [outB, List.nil_append] at hW
  generalize (L.flatMap St.leaves).map Leaf.row = T at *
  generalize L.map St.row = R at *
  simp -implicitDefEqProofs only [go_sem, ↓reduceIte, reduceCtorEq, Int.reduceLT, Int.reduceLE, Int.reduceToNat, Nat.reduceAdd, Nat.reduceMul, Nat.reduceLeDiff, Nat.reduceLT, Nat.reduceSub, Int.reduceNeg, Int.reduceEq, Int.reduceBEq, Int.reduceBNe, Nat.reduceEqDiff, hC, hW]
end Vg.G3
