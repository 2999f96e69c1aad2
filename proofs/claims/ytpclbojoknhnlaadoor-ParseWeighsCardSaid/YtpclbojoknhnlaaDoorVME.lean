import Derived.Test.YtpclbojoknhnlaaDoorVMA
namespace Vg.G3
open Go Lg Vg.Nm
set_option linter.unusedSimpArgs false
set_option linter.unusedVariables false
set_option maxRecDepth 10000
set_option maxHeartbeats 8000000
attribute [local congr] bind_congr1
attribute [local go_sem] strings_Join_f strings_Join_v parse_printer_put_r0 parse_printer_put_f parse_printer_put_v strconv_small_r0 strconv_small_r1 strconv_small_r2 strconv_small_r3 strconv_small_f strconv_small_v strconv_FormatIntx_r0 strconv_FormatIntx_r1 strconv_FormatIntx_r2 strconv_FormatIntx_r3 strconv_FormatIntx_r4 strconv_FormatIntx_r5 strconv_FormatIntx_r6 strconv_FormatIntx_r7 strconv_FormatIntx_r8 strconv_FormatIntx_r9 strconv_FormatIntx_r10 strconv_FormatIntx_r11 strconv_FormatIntx_r12 strconv_FormatIntx_r13 strconv_FormatIntx_r14 strconv_FormatIntx_r15 strconv_FormatIntx_f strconv_FormatIntx_v strconv_FormatInt_r0 strconv_FormatInt_r1 strconv_FormatInt_f strconv_FormatInt_v parse_number_r0 parse_number_r1 parse_number_f parse_number_v parse_printer_stmt_r0 parse_printer_stmt_r1 parse_printer_stmt_r2 parse_printer_stmt_r3 parse_printer_stmt_r4 parse_printer_stmt_r5 parse_printer_stmt_r6 parse_printer_stmt_r7 parse_printer_stmt_r8 parse_printer_stmt_r9 parse_printer_stmt_r10 parse_printer_stmt_r11 parse_printer_stmt_r12 parse_printer_stmt_r13 parse_printer_stmt_r14 parse_printer_stmt_r15 parse_printer_stmt_r16 parse_printer_stmt_r17 parse_printer_stmt_r18 parse_printer_stmt_r19 parse_printer_stmt_r20 parse_printer_stmt_r21 parse_printer_stmt_r22 parse_printer_stmt_r23 parse_printer_stmt_r24 parse_printer_stmt_r25 parse_printer_stmt_r26 parse_printer_stmt_r27 parse_printer_stmt_r28 parse_printer_stmt_r29 parse_printer_stmt_r30 parse_printer_stmt_f parse_printer_stmt_v parse_printer_block_r0 parse_printer_block_r1 parse_printer_block_r2 parse_printer_block_r3 parse_printer_block_r4 parse_printer_block_r5 parse_printer_block_r6 parse_printer_block_f parse_printer_block_v parse_Print_r0 parse_Print_r1 parse_Print_r2 parse_Print_r3 parse_Print_r4 parse_Print_r5 parse_Print_r6 parse_Print_r7 parse_Print_r8 parse_Print_r9 parse_Print_r10 parse_Print_f parse_Print_v gantkeep4_parsed_r0 gantkeep4_parsed_r1 gantkeep4_parsed_r2 gantkeep4_parsed_f gantkeep4_parsed_v parse_Weight_r0 parse_Weight_r1 parse_Weight_r2 parse_Weight_r3 parse_Weight_r4 parse_Weight_f parse_Weight_v parse_stmts_r0 parse_stmts_r1 parse_stmts_r2 parse_stmts_r3 parse_stmts_r4 parse_stmts_r5 parse_stmts_r6 parse_stmts_r7 parse_stmts_r8 parse_stmts_r9 parse_stmts_r10 parse_stmts_r11 parse_stmts_r12 parse_stmts_r13 parse_stmts_r14 parse_stmts_f parse_stmts_v parse_Check_r0 parse_Check_r1 parse_Check_r2 parse_Check_r3 parse_Check_r4 parse_Check_f parse_Check_v slices_Concat_antryparseStmt_f slices_Concat_antryparseStmt_v gantkeep4_ParseWeighs_r0 gantkeep4_ParseWeighs_r1 gantkeep4_ParseWeighs_r2 gantkeep4_ParseWeighs_r2_d gantkeep4_ParseWeighs_r3 gantkeep4_ParseWeighs_r4 gantkeep4_ParseWeighs_r5 gantkeep4_ParseWeighs_r6 gantkeep4_ParseWeighs_r7 gantkeep4_ParseWeighs_r8 gantkeep4_ParseWeighs_r9 gantkeep4_ParseWeighs_r10 gantkeep4_ParseWeighs_r11 gantkeep4_ParseWeighs_r11_d gantkeep4_ParseWeighs_f gantkeep4_ParseWeighs_v

def strR (l : List (List UInt8)) : List (List VV) := l.map fun x => [.str x]
theorem strR_all (l : List (List UInt8)) : ((strR l).all fun x => decide (x.length = 1)) = true := by
  rw [List.all_eq_true]; intro r hr; obtain ⟨y, _, rfl⟩ := List.mem_map.1 hr; rfl
theorem strs_R : ∀ (l : List (List UInt8)), strsOf ((strR l).flatten.map VV.sc) = some l
  | [] => rfl
  | s :: l => by
    have := strs_R l
    unfold strR at *
    simp only [List.map_cons, List.flatten_cons, List.cons_append, List.nil_append, strsOf, VV.sc, this]
theorem Join_R (l : List (List UInt8)) (h4 : ([32].intercalate l : List UInt8).length + l.length ≤ 140737488355328) (lo : Nat) (h : VHeap) : callVL vp lo n_strings_Join [.list .s (strR l), .str [32]] h = some (.str ([32].intercalate l), h) := by
  refine call_valE (fn := strings_Join_v) rfl rfl rfl rfl rfl ?_ lo h
  have h1 := strs_R l
  have h5 := strR_all l
  simp -implicitDefEqProofs only [go_sem, ↓reduceIte, reduceCtorEq, Int.reduceLT, Int.reduceLE, Int.reduceToNat, Nat.reduceAdd, Nat.reduceMul, Nat.reduceLeDiff, Nat.reduceLT, Nat.reduceSub, Int.reduceNeg, Int.reduceEq, Int.reduceBEq, Int.reduceBNe, Nat.reduceEqDiff, ext2, h1, h4, h5]
theorem put_at1 {lo : Nat} (hlo : lo ≤ 1) (a : VBlk) (t : VHeap) (L xs : List (List UInt8)) (hr : L.length + xs.length ≤ 5000) : callVL vp lo n_parse_printer_put [.ptr 1 0, .list .s (strR xs)] (a :: .cells true [.list .o (strR L)] :: t) = some (.tup [], a :: .cells true [.list .o (strR (L ++ xs))] :: t) := by
  have key := call_body (p := vp) (lo := lo) (h := a :: .cells true [.list .o (strR L)] :: t) (f := n_parse_printer_put) (fn := parse_printer_put_v) (args := [.ptr 1 0, .list .s (strR xs)]) (P := fun r => r = (.tup [], a :: .cells true [.list .o (strR (L ++ xs))] :: t)) rfl (.inl rfl) rfl ?_
  · obtain ⟨r, hr, rfl⟩ := key; exact hr
  have h1 := strR_all L
  have h2 := strR_all xs
  have l1 : (strR L).length = L.length := List.length_map _
  have l2 : (strR xs).length = xs.length := List.length_map _
  have e : strR (L ++ xs) = strR L ++ strR xs := List.map_append ..
  have hro : (L.length + xs.length + 512) * 16 ≤ 140737488355328 := by omega
  rw [e]
  generalize strR L = A at *
  generalize strR xs = B at *
  simp -implicitDefEqProofs only [go_sem, ↓reduceIte, reduceCtorEq, Int.reduceLT, Int.reduceLE, Int.reduceToNat, Nat.reduceAdd, Nat.reduceMul, Nat.reduceLeDiff, Nat.reduceLT, Nat.reduceSub, Int.reduceNeg, Int.reduceEq, Int.reduceBEq, Int.reduceBNe, Nat.reduceEqDiff, h1, h2, l1, l2, hro, hlo]
theorem number3 (lo : Nat) (h : VHeap) : callVL vp lo n_parse_number [.int .i64 3] h = some (.str [51], h) := by
  have w : IntKind.i64.wrap (3 + 1) = 4 := by decide
  have h0 : ∀ lo h, callVL vp lo n_strconv_small [.int .i64 3] h = some (.str [51], h) := fun lo h => by
    refine call_valE (fn := strconv_small_v) rfl rfl rfl rfl rfl ?_ lo h
    simp -implicitDefEqProofs only [go_sem, ↓reduceIte, reduceCtorEq, Int.reduceLT, Int.reduceLE, Int.reduceToNat, Nat.reduceAdd, Nat.reduceMul, Nat.reduceLeDiff, Nat.reduceLT, Nat.reduceSub, Int.reduceNeg, Int.reduceEq, Int.reduceBEq, Int.reduceBNe, Nat.reduceEqDiff, w]
  have h1 : ∀ lo h, callVL vp lo n_strconv_FormatIntx [.int .i64 3, .int .i64 10] h = some (.str [51], h) := fun lo h => by
    refine call_valE (fn := strconv_FormatIntx_v) rfl rfl rfl rfl rfl ?_ lo h
    simp -implicitDefEqProofs only [go_sem, ↓reduceIte, reduceCtorEq, Int.reduceLT, Int.reduceLE, Int.reduceToNat, Nat.reduceAdd, Nat.reduceMul, Nat.reduceLeDiff, Nat.reduceLT, Nat.reduceSub, Int.reduceNeg, Int.reduceEq, Int.reduceBEq, Int.reduceBNe, Nat.reduceEqDiff, h0]
  have h2 : ∀ lo h, callVL vp lo n_strconv_FormatInt [.int .i64 3, .int .i64 10] h = some (.str [51], h) := fun lo h => by
    refine call_valE (fn := strconv_FormatInt_v) rfl rfl rfl rfl rfl ?_ lo h
    simp -implicitDefEqProofs only [go_sem, ↓reduceIte, reduceCtorEq, Int.reduceLT, Int.reduceLE, Int.reduceToNat, Nat.reduceAdd, Nat.reduceMul, Nat.reduceLeDiff, Nat.reduceLT, Nat.reduceSub, Int.reduceNeg, Int.reduceEq, Int.reduceBEq, Int.reduceBNe, Nat.reduceEqDiff, h1]
  refine call_valE (fn := parse_number_v) rfl rfl rfl rfl rfl ?_ lo h
  simp -implicitDefEqProofs only [go_sem, ↓reduceIte, reduceCtorEq, Int.reduceLT, Int.reduceLE, Int.reduceToNat, Nat.reduceAdd, Nat.reduceMul, Nat.reduceLeDiff, Nat.reduceLT, Nat.reduceSub, Int.reduceNeg, Int.reduceEq, Int.reduceBEq, Int.reduceBNe, Nat.reduceEqDiff, h2]
def wRow : List VV := [.int .i64 5, .str [], .str [], .bool false, .str [], .str [], .int .i64 3, .list .s []]
theorem pstmt_at (a c : VBlk) (L : List (List UInt8)) (hL : L.length ≤ 100) : callVL vp 0 n_parse_printer_stmt [.ptr 1 0, .agg wRow] [a, .cells true [.list .o (strR L)], c] = some (.tup [], [a, .cells true [.list .o (strR (L ++ [[119, 97, 105, 116], [51], [59]]))], c]) := by
  have key := call_body (p := vp) (lo := 0) (h := [a, .cells true [.list .o (strR L)], c]) (f := n_parse_printer_stmt) (fn := parse_printer_stmt_v) (args := [.ptr 1 0, .agg wRow]) (P := fun r => r = (.tup [], [a, .cells true [.list .o (strR (L ++ [[119, 97, 105, 116], [51], [59]]))], c])) rfl (.inl rfl) rfl ?_
  · obtain ⟨r, hr, rfl⟩ := key; exact hr
  have p1 := fun t => put_at1 (lo := 0) (by decide) a t L [[119, 97, 105, 116], [51]] (by simp only [List.length_cons, List.length_nil]; omega)
  have p2 := fun t => put_at1 (lo := 0) (by decide) a t (L ++ [[119, 97, 105, 116], [51]]) [[59]] (by simp only [List.length_append, List.length_cons, List.length_nil]; omega)
  have e1 : strR [[119, 97, 105, 116], [51]] = [[.str [119, 97, 105, 116]], [.str [51]]] := rfl
  have e2 : strR [[59]] = [[.str [59]]] := rfl
  rw [e1] at p1
  rw [e2] at p2
  rw [show L ++ [[119, 97, 105, 116], [51], [59]] = (L ++ [[119, 97, 105, 116], [51]]) ++ [[59]] by rw [List.append_assoc]; rfl]
  have hn := number3
  unfold wRow
  generalize strR L = A at *
  generalize strR (L ++ [[119, 97, 105, 116], [51]]) = B at *
  generalize strR ((L ++ [[119, 97, 105, 116], [51]]) ++ [[59]]) = C at *
  simp -implicitDefEqProofs (maxSteps := 1000000) only [parse_printer_stmt_b0, go_sem, ↓reduceIte, reduceCtorEq, Int.reduceLT, Int.reduceLE, Int.reduceToNat, Nat.reduceAdd, Nat.reduceMul, Nat.reduceLeDiff, Nat.reduceLT, Nat.reduceSub, Int.reduceNeg, Int.reduceEq, Int.reduceBEq, Int.reduceBNe, Nat.reduceEqDiff, loopV_eq, ↓thenV_norm, ↓thenV_exit, ↓thenV_ret, p1, p2, hn, Int.lt_irrefl]
theorem pblock_at (a : VBlk) (L : List (List UInt8)) (hL : L.length ≤ 50) : callVL vp 0 n_parse_printer_block [.ptr 1 0, .list .s [wRow]] [a, .cells true [.list .o (strR L)]] = some (.tup [], [a, .cells true [.list .o (strR (L ++ [[123], [119, 97, 105, 116], [51], [59], [125]]))]]) := by
  have key := call_body (p := vp) (lo := 0) (h := [a, .cells true [.list .o (strR L)]]) (f := n_parse_printer_block) (fn := parse_printer_block_v) (args := [.ptr 1 0, .list .s [wRow]]) (P := fun r => r = (.tup [], [a, .cells true [.list .o (strR (L ++ [[123], [119, 97, 105, 116], [51], [59], [125]]))]])) rfl (.inl rfl) rfl ?_
  · obtain ⟨r, hr, rfl⟩ := key; exact hr
  have p1 := fun t => put_at1 (lo := 0) (by decide) a t L [[123]] (by simp only [List.length_cons, List.length_nil]; omega)
  have p2 := fun c => pstmt_at a c (L ++ [[123]]) (by simp only [List.length_append, List.length_cons, List.length_nil]; omega)
  have p3 := fun t => put_at1 (lo := 0) (by decide) a t ((L ++ [[123]]) ++ [[119, 97, 105, 116], [51], [59]]) [[125]] (by simp only [List.length_append, List.length_cons, List.length_nil]; omega)
  have e1 : strR [[123]] = [[.str [123]]] := rfl
  have e3 : strR [[125]] = [[.str [125]]] := rfl
  rw [e1] at p1
  rw [e3] at p3
  rw [show L ++ [[123], [119, 97, 105, 116], [51], [59], [125]] = ((L ++ [[123]]) ++ [[119, 97, 105, 116], [51], [59]]) ++ [[125]] by simp only [List.append_assoc]; rfl]
  unfold wRow at *
  generalize strR L = A at *
  generalize strR (L ++ [[123]]) = B at *
  generalize strR ((L ++ [[123]]) ++ [[119, 97, 105, 116], [51], [59]]) = C at *
  generalize strR (((L ++ [[123]]) ++ [[119, 97, 105, 116], [51], [59]]) ++ [[125]]) = D at *
  have w : IntKind.i64.wrap (0 + 1) = 1 := by decide
  simp -implicitDefEqProofs (maxSteps := 1000000) only [parse_printer_block_b0, go_sem, ↓reduceIte, reduceCtorEq, Int.reduceLT, Int.reduceLE, Int.reduceToNat, Nat.reduceAdd, Nat.reduceMul, Nat.reduceLeDiff, Nat.reduceLT, Nat.reduceSub, Int.reduceNeg, Int.reduceEq, Int.reduceBEq, Int.reduceBNe, Nat.reduceEqDiff, loopV_eq, ↓thenV_norm, ↓thenV_exit, ↓thenV_ret, p1, p2, p3, w, Int.lt_irrefl]
theorem wait3_ok : (Leaf.wait 3).ok 1 1 1 := ⟨by decide, by decide⟩
theorem parsed_spec (lo : Nat) (h : VHeap) : callVL vp lo n_gantkeep4_parsed [] h = some (.bool true, h) := by
  have hP : ∀ lo h, callVL vp lo n_parse_Print [.agg [.str [120], .list .s [wRow]]] h = some (.tup [.str [106, 111, 98, 32, 120, 32, 123, 32, 119, 97, 105, 116, 32, 51, 32, 59, 32, 125], .int .i64 0], h) := fun lo h => by
    refine call_valE (fn := parse_Print_v) rfl rfl rfl rfl rfl ?_ lo h
    have hC := Check_one wait3_ok
    have e : (Leaf.wait 3).row = wRow := rfl
    rw [e] at hC
    have p1 := fun a t => put_at1 (lo := 0) (by decide) a t [] [[106, 111, 98], [120]] (by decide)
    have p2 := fun a => pblock_at a ([] ++ [[106, 111, 98], [120]]) (by decide)
    have e0 : strR [] = [] := rfl
    have e1 : strR [[106, 111, 98], [120]] = [[.str [106, 111, 98]], [.str [120]]] := rfl
    have e2 : strR ([] ++ [[106, 111, 98], [120]]) = [[.str [106, 111, 98]], [.str [120]]] := rfl
    have e3 : strR (([] ++ [[106, 111, 98], [120]]) ++ [[123], [119, 97, 105, 116], [51], [59], [125]]) = [[.str [106, 111, 98]], [.str [120]], [.str [123]], [.str [119, 97, 105, 116]], [.str [51]], [.str [59]], [.str [125]]] := rfl
    rw [e0, e1, e2] at p1
    rw [e2, e3] at p2
    unfold wRow at *
    have hJ := Join_R [[106, 111, 98], [120], [123], [119, 97, 105, 116], [51], [59], [125]] (by decide)
    have e4 : ([32].intercalate [[106, 111, 98], [120], [123], [119, 97, 105, 116], [51], [59], [125]] : List UInt8) = [106, 111, 98, 32, 120, 32, 123, 32, 119, 97, 105, 116, 32, 51, 32, 59, 32, 125] := by decide
    have e5 : strR [[106, 111, 98], [120], [123], [119, 97, 105, 116], [51], [59], [125]] = [[.str [106, 111, 98]], [.str [120]], [.str [123]], [.str [119, 97, 105, 116]], [.str [51]], [.str [59]], [.str [125]]] := rfl
    rw [e4, e5] at hJ
    simp -implicitDefEqProofs (maxSteps := 1000000) only [go_sem, ↓reduceIte, reduceCtorEq, Int.reduceLT, Int.reduceLE, Int.reduceToNat, Nat.reduceAdd, Nat.reduceMul, Nat.reduceLeDiff, Nat.reduceLT, Nat.reduceSub, Int.reduceNeg, Int.reduceEq, Int.reduceBEq, Int.reduceBNe, Nat.reduceEqDiff, hC, p1, p2, hJ]
  refine call_valE (fn := gantkeep4_parsed_v) rfl rfl rfl rfl rfl ?_ lo h
  unfold wRow at hP
  simp -implicitDefEqProofs (maxSteps := 1000000) only [go_sem, ↓reduceIte, reduceCtorEq, Int.reduceLT, Int.reduceLE, Int.reduceToNat, Nat.reduceAdd, Nat.reduceMul, Nat.reduceLeDiff, Nat.reduceLT, Nat.reduceSub, Int.reduceNeg, Int.reduceEq, Int.reduceBEq, Int.reduceBNe, Nat.reduceEqDiff, hP]

theorem Weight_spec {a p s : Nat} {nm : List UInt8} (hn : NM nm) {L : List St} (hL : L.length ≤ 1000) (hok : ∀ x ∈ L, x.ok a p s 2) (hw : (L.map St.wt).sum ≤ 100) (lo : Nat) (h : VHeap) : callVL vp lo n_parse_Weight [.agg [.str nm, .list .s (L.map St.row)]] h = some (.tup [.int .i64 (((L.map St.wt).sum : Nat) : Int), .int .i64 0], h) := by
  refine call_valE (fn := parse_Weight_v) rfl rfl rfl rfl rfl ?_ lo h
  have hC := Check_spec hn hL hok
  rw [if_pos hw] at hC
  have hp := pstmts_spec L (dp := 1) (by decide) hL (fun x hx => st_ok 2 (Nat.le_refl _) x (hok x hx) 1 (by decide) (by decide))
  unfold big at hp
  rw [if_pos hw, if_pos hw] at hp
  generalize (L.map St.wt).sum = W at *
  generalize L.map St.row = R at *
  simp -implicitDefEqProofs only [go_sem, ↓reduceIte, reduceCtorEq, Int.reduceLT, Int.reduceLE, Int.reduceToNat, Nat.reduceAdd, Nat.reduceMul, Nat.reduceLeDiff, Nat.reduceLT, Nat.reduceSub, Int.reduceNeg, Int.reduceEq, Int.reduceBEq, Int.reduceBNe, Nat.reduceEqDiff, hC, hp]
/-- The weight of a job of one repetition. -/
theorem Weight_again {a p s : Nat} {nm : List UInt8} (hn : NM nm) {A : Sl} (hA : A.len ≤ 2) (hok : A.ok a p s 2) (hw : A.wt ≤ 100) {n : Nat} (n1 : 1 ≤ n) (n5 : n ≤ 5) (lo : Nat) (h : VHeap) : callVL vp lo n_parse_Weight [.agg [.str nm, .list .s [[.int .i64 7, .str [], .str [], .bool false, .str [], .str [], .int .i64 (n : Nat), .list .s [[.list .s A.rows]]]]]] h = some (big (1 + A.wt * n), h) := by
  have hS : ∀ lo h, callVL vp lo n_parse_stmt [.agg [.int .i64 7, .str [], .str [], .bool false, .str [], .str [], .int .i64 (n : Nat), .list .s [[.list .s A.rows]]], .int .i64 1] h = some (big (1 + A.wt * n), h) := fun lo h => by
    have := pblk_spec (k := 7) (n := n) (L := [A]) (dp := 1) (by decide) (by decide) ⟨.inr (.inl ⟨rfl, n1, n5, rfl⟩)⟩ (fun l hl => by
      simp only [List.mem_singleton] at hl
      subst hl
      refine ⟨hw, fun lo h => ?_⟩
      have := pstmts_spec l.list (dp := 1 + 1) (by decide) (by rw [Sl.list_len]; omega) (fun x hx => st_ok 2 (Nat.le_refl _) x (Sl.ok_mem l hok x hx) (1 + 1) (by decide) (by decide)) lo h
      rw [← Sl.rows_eq, ← Sl.wt_eq] at this
      rw [this]
      unfold big
      rw [if_pos hw, if_pos hw]) lo h
    simp only [List.map_cons, List.map_nil, List.sum_cons, List.sum_nil, Nat.add_zero] at this
    rw [show max n 1 = n by omega] at this
    exact this
  have hT : ∀ lo h, callVL vp lo n_parse_stmts [.list .s [[.int .i64 7, .str [], .str [], .bool false, .str [], .str [], .int .i64 (n : Nat), .list .s [[.list .s A.rows]]]], .int .i64 1] h = some (big (1 + A.wt * n), h) := fun lo h => by
    refine call_valE (fn := parse_stmts_v) rfl rfl rfl rfl rfl ?_ lo h
    generalize 1 + A.wt * n = W at *
    generalize A.rows = R at *
    unfold big at *
    have w1 : IntKind.i64.wrap (0 + 1) = 1 := by decide
    by_cases hb : W ≤ 100
    · rw [if_pos hb, if_pos hb] at hS ⊢
      have g : ¬ (100 : Int) < ((W : Nat) : Int) := by omega
      have w : IntKind.i64.wrap (0 + ((W : Nat) : Int)) = ((W : Nat) : Int) := by rw [Int.zero_add]; exact wrap_id (by omega) (by omega)
      simp -implicitDefEqProofs (maxSteps := 1000000) only [parse_stmts_b0, go_sem, ↓reduceIte, reduceCtorEq, Int.reduceLT, Int.reduceLE, Int.reduceToNat, Nat.reduceAdd, Nat.reduceMul, Nat.reduceLeDiff, Nat.reduceLT, Nat.reduceSub, Int.reduceNeg, Int.reduceEq, Int.reduceBEq, Int.reduceBNe, Nat.reduceEqDiff, loopV_eq, ↓thenV_norm, ↓thenV_exit, ↓thenV_ret, hS, g, w, w1, Int.lt_irrefl]
    · rw [if_neg hb, if_neg hb] at hS ⊢
      simp -implicitDefEqProofs (maxSteps := 1000000) only [parse_stmts_b0, go_sem, ↓reduceIte, reduceCtorEq, Int.reduceLT, Int.reduceLE, Int.reduceToNat, Nat.reduceAdd, Nat.reduceMul, Nat.reduceLeDiff, Nat.reduceLT, Nat.reduceSub, Int.reduceNeg, Int.reduceEq, Int.reduceBEq, Int.reduceBNe, Nat.reduceEqDiff, loopV_eq, ↓thenV_norm, ↓thenV_exit, ↓thenV_ret, hS, w1, Int.lt_irrefl, cast0]
  have hN := hn.name
  have hC : ∀ lo h, callVL vp lo n_parse_Check [.agg [.str nm, .list .s [[.int .i64 7, .str [], .str [], .bool false, .str [], .str [], .int .i64 (n : Nat), .list .s [[.list .s A.rows]]]]]] h = some (.int .i64 (if 1 + A.wt * n ≤ 100 then 0 else 2), h) := fun lo h => by
    refine call_valE (fn := parse_Check_v) rfl rfl rfl rfl rfl ?_ lo h
    generalize 1 + A.wt * n = W at *
    generalize A.rows = R at *
    unfold big at hT
    generalize (if W ≤ 100 then (0 : Int) else 2) = E at *
    generalize (((if W ≤ 100 then W else 0 : Nat)) : Int) = F at *
    simp -implicitDefEqProofs only [go_sem, ↓reduceIte, reduceCtorEq, Int.reduceLT, Int.reduceLE, Int.reduceToNat, Nat.reduceAdd, Nat.reduceMul, Nat.reduceLeDiff, Nat.reduceLT, Nat.reduceSub, Int.reduceNeg, Int.reduceEq, Int.reduceBEq, Int.reduceBNe, Nat.reduceEqDiff, hT, hN]
  refine call_valE (fn := parse_Weight_v) rfl rfl rfl rfl rfl ?_ lo h
  generalize 1 + A.wt * n = W at *
  generalize A.rows = R at *
  clear hS
  unfold big at *
  by_cases hb : W ≤ 100
  · rw [if_pos hb] at hC
    rw [if_pos hb, if_pos hb] at hT ⊢
    simp -implicitDefEqProofs only [go_sem, ↓reduceIte, reduceCtorEq, Int.reduceLT, Int.reduceLE, Int.reduceToNat, Nat.reduceAdd, Nat.reduceMul, Nat.reduceLeDiff, Nat.reduceLT, Nat.reduceSub, Int.reduceNeg, Int.reduceEq, Int.reduceBEq, Int.reduceBNe, Nat.reduceEqDiff, hC, hT]
  · rw [if_neg hb] at hC
    rw [if_neg hb, if_neg hb] at hT ⊢
    simp -implicitDefEqProofs only [go_sem, ↓reduceIte, reduceCtorEq, Int.reduceLT, Int.reduceLE, Int.reduceToNat, Nat.reduceAdd, Nat.reduceMul, Nat.reduceLeDiff, Nat.reduceLT, Nat.reduceSub, Int.reduceNeg, Int.reduceEq, Int.reduceBEq, Int.reduceBNe, Nat.reduceEqDiff, hC, hT, cast0]
theorem rows8 (L : List St) : ((L.map St.row).all fun x => decide (x.length = 8)) = true := by
  rw [List.all_eq_true]; intro r hr; obtain ⟨y, _, rfl⟩ := List.mem_map.1 hr; exact decide_eq_true y.row_len
theorem Concat_spec (A B : List St) (hl : A.length + B.length ≤ 1000) (lo : Nat) (h : VHeap) : callVL vp lo n_slices_Concat_antryparseStmt [.list .s [[.list .s (A.map St.row)], [.list .s (B.map St.row)]]] h = some (.list .s ((A ++ B).map St.row), h) := by
  refine call_valE (fn := slices_Concat_antryparseStmt_v) rfl rfl rfl rfl rfl ?_ lo h
  have hr : (A.length + B.length + 512) * 112 ≤ 140737488355328 := Nat.le_trans (Nat.mul_le_mul_right 112 (show A.length + B.length + 512 ≤ 2000 by omega)) (by decide)
  have ha := rows8 A
  have hb := rows8 B
  have l1 : (A.map St.row).length = A.length := List.length_map _
  have l2 : (B.map St.row).length = B.length := List.length_map _
  rw [List.map_append]
  generalize A.map St.row = X at *
  generalize B.map St.row = Y at *
  simp -implicitDefEqProofs only [go_sem, ↓reduceIte, reduceCtorEq, Int.reduceLT, Int.reduceLE, Int.reduceToNat, Nat.reduceAdd, Nat.reduceMul, Nat.reduceLeDiff, Nat.reduceLT, Nat.reduceSub, Int.reduceNeg, Int.reduceEq, Int.reduceBEq, Int.reduceBNe, Nat.reduceEqDiff, G3d.concatF, ha, hb, hr, l1, l2]
/-- The law ParseWeighs. -/
theorem ParseWeighs_law (raw l m : List Int) (nn : Int) (lo : Nat) (h : VHeap) : callVL vp lo n_gantkeep4_ParseWeighs [.list .s (raw.map fun x => [.int .i64 x]), .list .s (l.map fun x => [.int .i64 x]), .list .s (m.map fun x => [.int .i64 x]), .int .i64 nn] h = some (.bool true, h) := by
  refine call_valE (fn := gantkeep4_ParseWeighs_v) rfl rfl rfl rfl rfl ?_ lo h
  obtain ⟨a, p, s, h1, h2, h3, h4, h5, h6, hS⟩ := Small_spec raw
  have job : ∀ xs : List Int, ∃ J : Sl, J.len ≤ 2 ∧ J.ok a p s 2 ∧ (J.list.map St.wt).sum ≤ 42 ∧ ∀ lo h, callVL vp lo n_gantkeep4_Job [.agg (smallV a p s), .list .s (xs.map fun x => [.int .i64 x])] h = some (.agg [.str [116, 97, 115, 107], .list .s J.rows], h) := fun xs => by
    obtain ⟨g1, g2, g3⟩ := gS_ok h1 h2 h3 h4 h5 h6 2 xs
    refine ⟨_, g2, g3, ?_, Job_spec h1 h2 h3 h4 h5 h6 xs⟩
    have hok := Sl.ok_mem _ g3
    have := sum_le_mul (l := (gS a p s 2 xs).1.list.map St.wt) (m := 21) fun x hx => by
      obtain ⟨y, hy, rfl⟩ := List.mem_map.1 hx
      exact wt_le 2 y (hok y hy)
    rw [List.length_map, Sl.list_len] at this
    omega
  obtain ⟨A, a1, a2, a3, hA⟩ := job l
  obtain ⟨B, b1, b2, b3, hB⟩ := job m
  clear job
  have nt : NM [116, 97, 115, 107] := ⟨by decide, by decide, by decide, by decide⟩
  have nb : NM [98, 111, 116, 104] := ⟨by decide, by decide, by decide, by decide⟩
  have na : NM [97, 103, 97, 105, 110] := ⟨by decide, by decide, by decide, by decide⟩
  have la : A.list.length ≤ 2 := by rw [Sl.list_len]; exact a1
  have lb : B.list.length ≤ 2 := by rw [Sl.list_len]; exact b1
  have oka := Sl.ok_mem A a2
  have okb := Sl.ok_mem B b2
  have okc : ∀ x ∈ A.list ++ B.list, x.ok a p s 2 := fun x hx => by
    rcases List.mem_append.1 hx with hx | hx
    · exact oka x hx
    · exact okb x hx
  have sc : ((A.list ++ B.list).map St.wt).sum = (A.list.map St.wt).sum + (B.list.map St.wt).sum := by rw [List.map_append, List.sum_append]
  have lc : (A.list ++ B.list).length ≤ 1000 := by rw [List.length_append]; omega
  have WA := Weight_spec nt (by omega) oka (by omega)
  have WB := Weight_spec nt (by omega) okb (by omega)
  have WC := Weight_spec nb lc okc (by rw [sc]; omega)
  have VA := Leaves_spec nt (by omega) oka (by omega)
  have VB := Leaves_spec nt (by omega) okb (by omega)
  have VC := Leaves_spec nb lc okc (by rw [sc]; omega)
  have hCc := Concat_spec A.list B.list (by omega)
  have hBl := Below_spec nn 5 (by decide)
  have bb := belowP_bnd nn 5 (by decide) (by decide)
  obtain ⟨N, hN⟩ : ∃ N : Nat, 1 + belowP nn 5 = (N : Int) := ⟨(1 + belowP nn 5).toNat, by omega⟩
  have WG := Weight_again na a1 a2 (by rw [Sl.wt_eq]; omega) (n := N) (by omega) (by omega)
  rw [Sl.wt_eq] at WG
  have wN : IntKind.i64.wrap ((N : Nat) : Int) = ((N : Nat) : Int) := wrap_id (by omega) (by omega)
  have hp := parsed_spec
  have lC : (((A.list ++ B.list).flatMap St.leaves).map Leaf.row).length = ((A.list.flatMap St.leaves).map Leaf.row).length + ((B.list.flatMap St.leaves).map Leaf.row).length := by rw [List.flatMap_append, List.map_append, List.length_append]
  have lA : ((A.list.flatMap St.leaves).map Leaf.row).length ≤ 42 := by
    rw [List.length_map, ← Sl.leaves_eq]
    exact Nat.le_trans A.leaves_le (by rw [Sl.wt_eq]; exact a3)
  have lB : ((B.list.flatMap St.leaves).map Leaf.row).length ≤ 42 := by
    rw [List.length_map, ← Sl.leaves_eq]
    exact Nat.le_trans B.leaves_le (by rw [Sl.wt_eq]; exact b3)
  rw [sc] at WC
  rw [← Sl.rows_eq] at WA VA hCc
  rw [← Sl.rows_eq] at WB VB hCc
  clear oka okb okc la lb lc a1 a2 b1 b2 nt nb na sc
  generalize (A.list.map St.wt).sum = X at *
  generalize (B.list.map St.wt).sum = Y at *
  generalize (A.list ++ B.list).map St.row = RC at *
  generalize ((A.list ++ B.list).flatMap St.leaves).map Leaf.row = TC at *
  generalize (A.list.flatMap St.leaves).map Leaf.row = TA at *
  generalize (B.list.flatMap St.leaves).map Leaf.row = TB at *
  generalize A.rows = RA at *
  generalize B.rows = RB at *
  generalize belowP nn 5 = bn at *
  unfold smallV at *
  generalize armsR.take a = AR at *
  generalize partsR.take p = PR at *
  generalize slotsR.take s = SR at *
  have wXY : IntKind.i64.wrap ((X : Nat) + (Y : Nat) : Int) = ((X + Y : Nat) : Int) := by rw [wrap_id (by omega) (by omega)]; rfl
  have c1 : ((X + Y : Nat) : Int) ≤ 100 := by omega
  have wL : IntKind.i64.wrap ((TA.length : Nat) + (TB.length : Nat) : Int) = ((TA.length + TB.length : Nat) : Int) := by rw [wrap_id (by omega) (by omega)]; rfl
  have hNX : N * X ≤ 5 * 42 := Nat.mul_le_mul (by omega) a3
  have wM : IntKind.i64.wrap ((N : Nat) * (X : Nat) : Int) = ((N * X : Nat) : Int) := by rw [← Int.natCast_mul]; exact wrap_id (by omega) (by omega)
  have wP : IntKind.i64.wrap (1 + ((N * X : Nat) : Int)) = ((1 + N * X : Nat) : Int) := by rw [wrap_id (by omega) (by omega)]; omega
  rw [Nat.mul_comm X N] at WG
  unfold big at WG
  by_cases hb : 1 + N * X ≤ 100
  · rw [if_pos hb, if_pos hb] at WG
    simp -implicitDefEqProofs (maxSteps := 1000000) only [go_sem, ↓reduceIte, reduceCtorEq, Int.reduceLT, Int.reduceLE, Int.reduceToNat, Nat.reduceAdd, Nat.reduceMul, Nat.reduceLeDiff, Nat.reduceLT, Nat.reduceSub, Int.reduceNeg, Int.reduceEq, Int.reduceBEq, Int.reduceBNe, Nat.reduceEqDiff, hS, hA, hB, WA, WB, hCc, WC, hp, wXY, c1, hBl, hN, wN, WG, wM, wP, VC, VA, VB, lC, wL]
  · rw [if_neg hb, if_neg hb] at WG
    have g : (100 : Int) < ((1 + N * X : Nat) : Int) := by omega
    simp -implicitDefEqProofs (maxSteps := 1000000) only [go_sem, ↓reduceIte, reduceCtorEq, Int.reduceLT, Int.reduceLE, Int.reduceToNat, Nat.reduceAdd, Nat.reduceMul, Nat.reduceLeDiff, Nat.reduceLT, Nat.reduceSub, Int.reduceNeg, Int.reduceEq, Int.reduceBEq, Int.reduceBNe, Nat.reduceEqDiff, hS, hA, hB, WA, WB, hCc, WC, hp, wXY, c1, hBl, hN, wN, WG, wM, wP, g, cast0]
end Vg.G3
