import Derived.Test.YtpikplkdlbnffaaGreatDoorVMV
import Derived.Test.YtpikplkdlbnffaaGreatDoorVBW
namespace Vg.G3
open Go Lg Vg.Nm Go.RowKit
set_option linter.unusedSimpArgs false
set_option linter.unusedVariables false
set_option maxRecDepth 100000
set_option maxHeartbeats 8000000
attribute [local congr] bind_congr1
attribute [local go_sem] parse_Read_r0 parse_Read_r1 parse_Read_r2 parse_Read_r3 parse_Read_r4 parse_Read_r5 parse_Read_r6 parse_Read_r7 parse_Read_r8 parse_Read_r9 parse_Read_r10 parse_Read_r11 parse_Read_r12 parse_Read_r13 parse_Read_r14 parse_Read_r15 parse_Read_r16 parse_Read_r17 parse_Read_r18 parse_Read_r19 parse_Read_r20 parse_Read_f parse_Read_v slices_EqualFunc_antryparseStmt_r0 slices_EqualFunc_antryparseStmt_r1 slices_EqualFunc_antryparseStmt_r2 slices_EqualFunc_antryparseStmt_r3 slices_EqualFunc_antryparseStmt_r4 slices_EqualFunc_antryparseStmt_r5 slices_EqualFunc_antryparseStmt_r6 slices_EqualFunc_antryparseStmt_r7 slices_EqualFunc_antryparseStmt_r8 slices_EqualFunc_antryparseStmt_r9 slices_EqualFunc_antryparseStmt_r10 slices_EqualFunc_antryparseStmt_f slices_EqualFunc_antryparseStmt_v parse_sameAll_r0 parse_sameAll_r1 parse_sameAll_f parse_sameAll_v slices_EqualFunc_antryparseStmtx_r0 slices_EqualFunc_antryparseStmtx_r1 slices_EqualFunc_antryparseStmtx_r2 slices_EqualFunc_antryparseStmtx_r3 slices_EqualFunc_antryparseStmtx_r4 slices_EqualFunc_antryparseStmtx_r5 slices_EqualFunc_antryparseStmtx_r6 slices_EqualFunc_antryparseStmtx_r7 slices_EqualFunc_antryparseStmtx_r8 slices_EqualFunc_antryparseStmtx_r9 slices_EqualFunc_antryparseStmtx_r10 slices_EqualFunc_antryparseStmtx_f slices_EqualFunc_antryparseStmtx_v parse_same_r0 parse_same_r1 parse_same_f parse_same_v parse_Same_r0 parse_Same_r1 parse_Same_f parse_Same_v gantkeep4_ParseBack_r0 gantkeep4_ParseBack_r1 gantkeep4_ParseBack_r2 gantkeep4_ParseBack_r3 gantkeep4_ParseBack_r4 gantkeep4_ParseBack_f gantkeep4_ParseBack_v

mutual
theorem St.num_le : (x : St) → x.num ≤ x.wt
  | .leaf _ => Nat.le_refl _
  | .blk _ n bs => by
    rw [St.num,St.wt]
    have := Bs.num_le bs
    have := Nat.le_mul_of_pos_right bs.wt (show 0 < max n 1 by omega)
    omega
theorem Sl.num_le : (x : Sl) → x.num ≤ x.wt
  | .nil => Nat.le_refl _
  | .cons s l => by
    rw [Sl.num,Sl.wt]
    have := St.num_le s
    have := Sl.num_le l
    omega
theorem Bs.num_le : (x : Bs) → x.num ≤ x.wt
  | .nil => Nat.le_refl _
  | .cons l b => by
    rw [Bs.num,Bs.wt]
    have := Sl.num_le l
    have := Bs.num_le b
    omega
end
/-- Reading a job whose words are those of the generator's. -/
theorem Read_job {a p s : Nat} {l : Sl} (h2 : l.len ≤ 2) (hok : l.ok a p s 2) (hw : (l.list.map St.wt).sum ≤ 100) {src : List UInt8} {ks : List Wd} (hr : Vg.W.readF src = .ok ks) (hm : Mt ks (jobW l)) (lo : Nat) (h : VHeap) : callVL vp lo n_parse_Read [.str src] h = some (.tup [.agg [.str [116,97,115,107],.list .s l.rows],.int .i64 0],h) := by
  refine call_valE (fn := parse_Read_v) rfl rfl rfl rfl rfl ?_ lo h
  have nt : NM [116,97,115,107] := ⟨by decide,by decide,by decide,by decide⟩
  have hC := Check_spec nt (L := l.list) (by rw [Sl.list_len]; omega) (Sl.ok_mem l hok)
  rw [if_pos hw,← Sl.rows_eq] at hC
  unfold jobW at hm
  rw [List.cons_append,List.cons_append,List.nil_append] at hm
  obtain ⟨w1,us,rfl,t1, -,hm⟩ := hm.cons
  obtain ⟨w2,us,rfl,t2,k2,hm⟩ := hm.cons
  have hR : ∀ lo h,callVL vp lo n_word_Read [.str src] h = some (.tup [.list .s ((w1 :: w2 :: us).map Vg.W.fW),.int .i64 0],h) := fun lo h => by rw [Vg.W.Read_spec,hr]; rfl
  have H := fun b0 b2 : VBlk => (⟨fun _ => rfl,by decide,by decide,fun _ => rfl,fun _ _ => rfl⟩ : HH 0 1 3 fun x => [b0,x,b2])
  have T1 := fun b0 b2 => take_yes (H b0 b2) w1 (w2 :: us) t1 100
  have N1 := fun b0 b2 => rname_spec (H b0 b2) w2 us (by rw [k2]; rfl) (by rw [t2]; decide) 100
  rw [t2] at N1
  have hn : ((l.list.map St.num).sum : Int) ≤ 100 := by
    rw [← Sl.num_eq]
    have := l.num_le
    rw [Sl.wt_eq] at this
    omega
  have B1 := fun b0 b2 => rblock_spec (H b0 b2) (M := l.list) (dp := 1) (by decide) (by rw [Sl.list_len]; omega) (fun x hx => rd_ok 2 x (Sl.ok_mem l hok x hx) 1 (by decide) (by decide)) us [] 100 hm hn (by decide)
  rw [← Sl.rows_eq,List.append_nil] at B1
  unfold rdB at *
  generalize (100 : Int) - ((l.list.map St.num).sum : Nat) = E at *
  generalize l.rows = R at *
  have e0 : ([] : List Wd).map Vg.W.fW = [] := rfl
  rw [e0] at B1
  generalize (w1 :: w2 :: us).map Vg.W.fW = U1 at *
  generalize (w2 :: us).map Vg.W.fW = U2 at *
  generalize us.map Vg.W.fW = U3 at *
  simp -implicitDefEqProofs (maxSteps := 1000000) only [go_sem,↓reduceIte,reduceCtorEq,Int.reduceLT,Int.reduceLE,Int.reduceToNat,Nat.reduceAdd,Nat.reduceMul,Nat.reduceLeDiff,Nat.reduceLT,Nat.reduceSub,Int.reduceNeg,Int.reduceEq,Int.reduceBEq,Int.reduceBNe,Nat.reduceEqDiff,hR,T1,N1,B1,hC,List.length_nil,cast0,Int.lt_irrefl]
/-- A statement is the same as itself. -/
def SmOk (x : St) : Prop := ∀ lo h,callVL vp lo n_parse_same [.agg x.row,.agg x.row] h = some (.bool true,h)
theorem sameAll_spec (L : List St) (hL : L.length ≤ 1000) (hS : ∀ x ∈ L,SmOk x) (lo : Nat) (h : VHeap) : callVL vp lo n_parse_sameAll [.list .s (L.map St.row),.list .s (L.map St.row)] h = some (.bool true,h) := by
  have hE : ∀ lo h,callVL vp lo n_slices_EqualFunc_antryparseStmt [.list .s (L.map St.row),.list .s (L.map St.row),.func n_parse_same []] h = some (.bool true,h) := fun lo h => by
    refine call_valE (fn := slices_EqualFunc_antryparseStmt_v) rfl rfl rfl rfl rfl ?_ lo h
    obtain ⟨P,hP⟩ : ∃ P : VV → Prop,P = fun w : VV => w = .bool true := ⟨_,rfl⟩
    have hP1 : P (.bool true) := by subst hP; rfl
    have hP3 : (fun r : VV × VHeap => r.1 = .bool true) = fun r => P r.1 := by subst hP; rfl
    rw [hP3]
    clear hP hP3
    have hlen : (L.map St.row).length = L.length := List.length_map _
    simp -implicitDefEqProofs only [go_sem,↓reduceIte,reduceCtorEq,Int.reduceLT,Int.reduceLE,Int.reduceToNat,Nat.reduceAdd,Nat.reduceMul,Nat.reduceLeDiff,Nat.reduceLT,Nat.reduceSub,Int.reduceNeg,Int.reduceEq,Int.reduceBEq,Int.reduceBNe,Nat.reduceEqDiff,hlen]
    rw [Sat_bind]
    refine loop_up (I := fun i env h' => h' = [] ∧ env = [.undef,.list .s (L.map St.row),.func n_parse_same [],.undef,.undef,.undef,.undef,.undef,.undef,.undef,.undef,.undef,.undef,.undef,.undef,.list .s (L.map St.row),.int .i64 ((L.length : Nat) : Int),.int .i64 ((i : Nat) : Int),.undef,.undef,.undef,.undef,.undef,.undef,.undef,.undef,.undef,.undef,.undef,.undef,.undef,.undef]) L.length ?_ ?_ (Nat.zero_le _) ⟨rfl,by simp -implicitDefEqProofs only [go_sem,↓reduceIte,reduceCtorEq,Int.reduceLT,Int.reduceLE,Int.reduceToNat,Nat.reduceAdd,Nat.reduceMul,Nat.reduceLeDiff,Nat.reduceLT,Nat.reduceSub,Int.reduceNeg,Int.reduceEq,Int.reduceBEq,Int.reduceBNe,Nat.reduceEqDiff,cast0]⟩
    · rintro i env h' hi ⟨rfl,rfl⟩
      have hi' : (i : Int) < (L.length : Int) := by omega
      obtain ⟨x,hx⟩ : ∃ x,L[i]? = some x := ⟨L[i],List.getElem?_eq_getElem hi⟩
      have hg := get_map (F := St.row) hx
      have hw := hS x (List.mem_of_getElem? hx)
      have wi := wrap_succ (i := i) (by omega)
      unfold SmOk at hw
      obtain ⟨k,A,B,n,d,N,bs,hr⟩ := x.row_x
      rw [hr] at hg hw
      simp -implicitDefEqProofs only [slices_EqualFunc_antryparseStmt_b0,go_sem,↓reduceIte,reduceCtorEq,Int.reduceLT,Int.reduceLE,Int.reduceToNat,Nat.reduceAdd,Nat.reduceMul,Nat.reduceLeDiff,Nat.reduceLT,Nat.reduceSub,Int.reduceNeg,Int.reduceEq,Int.reduceBEq,Int.reduceBNe,Nat.reduceEqDiff,hi',hg,hw,wi]
    · rintro env h' ⟨rfl,rfl⟩
      simp -implicitDefEqProofs only [slices_EqualFunc_antryparseStmt_b0,go_sem,↓reduceIte,reduceCtorEq,Int.reduceLT,Int.reduceLE,Int.reduceToNat,Nat.reduceAdd,Nat.reduceMul,Nat.reduceLeDiff,Nat.reduceLT,Nat.reduceSub,Int.reduceNeg,Int.reduceEq,Int.reduceBEq,Int.reduceBNe,Nat.reduceEqDiff,Int.lt_irrefl]
      exact hP1
  refine call_valE (fn := parse_sameAll_v) rfl rfl rfl rfl rfl ?_ lo h
  generalize L.map St.row = R at *
  simp -implicitDefEqProofs only [go_sem,↓reduceIte,reduceCtorEq,Int.reduceLT,Int.reduceLE,Int.reduceToNat,Nat.reduceAdd,Nat.reduceMul,Nat.reduceLeDiff,Nat.reduceLT,Nat.reduceSub,Int.reduceNeg,Int.reduceEq,Int.reduceBEq,Int.reduceBNe,Nat.reduceEqDiff,hE]
theorem same_blocks (L : List Sl) (hL : L.length ≤ 1000) (hS : ∀ l ∈ L,∀ lo h,callVL vp lo n_parse_sameAll [.list .s l.rows,.list .s l.rows] h = some (.bool true,h)) (lo : Nat) (h : VHeap) : callVL vp lo n_slices_EqualFunc_antryparseStmtx [.list .s (L.map fun l => [.list .s l.rows]),.list .s (L.map fun l => [.list .s l.rows]),.func n_parse_sameAll []] h = some (.bool true,h) := by
  refine call_valE (fn := slices_EqualFunc_antryparseStmtx_v) rfl rfl rfl rfl rfl ?_ lo h
  obtain ⟨P,hP⟩ : ∃ P : VV → Prop,P = fun w : VV => w = .bool true := ⟨_,rfl⟩
  have hP1 : P (.bool true) := by subst hP; rfl
  have hP3 : (fun r : VV × VHeap => r.1 = .bool true) = fun r => P r.1 := by subst hP; rfl
  rw [hP3]
  clear hP hP3
  have hlen : (L.map fun l => [VV.list .s l.rows]).length = L.length := List.length_map _
  simp -implicitDefEqProofs only [go_sem,↓reduceIte,reduceCtorEq,Int.reduceLT,Int.reduceLE,Int.reduceToNat,Nat.reduceAdd,Nat.reduceMul,Nat.reduceLeDiff,Nat.reduceLT,Nat.reduceSub,Int.reduceNeg,Int.reduceEq,Int.reduceBEq,Int.reduceBNe,Nat.reduceEqDiff,hlen]
  rw [Sat_bind]
  refine loop_up (I := fun i env h' => h' = [] ∧ env = [.undef,.list .s (L.map fun l => [.list .s l.rows]),.func n_parse_sameAll [],.undef,.undef,.undef,.undef,.undef,.undef,.undef,.undef,.undef,.undef,.undef,.undef,.list .s (L.map fun l => [.list .s l.rows]),.int .i64 ((L.length : Nat) : Int),.int .i64 ((i : Nat) : Int),.undef,.undef,.undef,.undef,.undef,.undef,.undef,.undef,.undef,.undef,.undef,.undef,.undef,.undef]) L.length ?_ ?_ (Nat.zero_le _) ⟨rfl,by simp -implicitDefEqProofs only [go_sem,↓reduceIte,reduceCtorEq,Int.reduceLT,Int.reduceLE,Int.reduceToNat,Nat.reduceAdd,Nat.reduceMul,Nat.reduceLeDiff,Nat.reduceLT,Nat.reduceSub,Int.reduceNeg,Int.reduceEq,Int.reduceBEq,Int.reduceBNe,Nat.reduceEqDiff,cast0]⟩
  · rintro i env h' hi ⟨rfl,rfl⟩
    have hi' : (i : Int) < (L.length : Int) := by omega
    obtain ⟨x,hx⟩ : ∃ x,L[i]? = some x := ⟨L[i],List.getElem?_eq_getElem hi⟩
    have hg := get_map (F := fun l : Sl => [VV.list .s l.rows]) hx
    have hw := hS x (List.mem_of_getElem? hx)
    have wi := wrap_succ (i := i) (by omega)
    generalize x.rows = R at *
    simp -implicitDefEqProofs only [slices_EqualFunc_antryparseStmtx_b0,go_sem,↓reduceIte,reduceCtorEq,Int.reduceLT,Int.reduceLE,Int.reduceToNat,Nat.reduceAdd,Nat.reduceMul,Nat.reduceLeDiff,Nat.reduceLT,Nat.reduceSub,Int.reduceNeg,Int.reduceEq,Int.reduceBEq,Int.reduceBNe,Nat.reduceEqDiff,hi',hg,hw,wi]
  · rintro env h' ⟨rfl,rfl⟩
    simp -implicitDefEqProofs only [slices_EqualFunc_antryparseStmtx_b0,go_sem,↓reduceIte,reduceCtorEq,Int.reduceLT,Int.reduceLE,Int.reduceToNat,Nat.reduceAdd,Nat.reduceMul,Nat.reduceLeDiff,Nat.reduceLT,Nat.reduceSub,Int.reduceNeg,Int.reduceEq,Int.reduceBEq,Int.reduceBNe,Nat.reduceEqDiff,Int.lt_irrefl]
    exact hP1
theorem same_row {k N : Int} {A B n d : List UInt8} {bs : List (List VV)} (hE : ∀ lo h,callVL vp lo n_slices_EqualFunc_antryparseStmtx [.list .s bs,.list .s bs,.func n_parse_sameAll []] h = some (.bool true,h)) (lo : Nat) (h : VHeap) : callVL vp lo n_parse_same [.agg [.int .i64 k,.str A,.str B,.bool false,.str n,.str d,.int .i64 N,.list .s bs],.agg [.int .i64 k,.str A,.str B,.bool false,.str n,.str d,.int .i64 N,.list .s bs]] h = some (.bool true,h) := by
  refine call_valE (fn := parse_same_v) rfl rfl rfl rfl rfl ?_ lo h
  have b1 : (A == A) = true := beq_self_eq_true _
  have b2 : (B == B) = true := beq_self_eq_true _
  have b3 : (n == n) = true := beq_self_eq_true _
  have b4 : (d == d) = true := beq_self_eq_true _
  simp -implicitDefEqProofs (maxSteps := 1000000) only [go_sem,↓reduceIte,reduceCtorEq,Int.reduceLT,Int.reduceLE,Int.reduceToNat,Nat.reduceAdd,Nat.reduceMul,Nat.reduceLeDiff,Nat.reduceLT,Nat.reduceSub,Int.reduceNeg,Int.reduceEq,Int.reduceBEq,Int.reduceBNe,Nat.reduceEqDiff,hE,b1,b2,b3,b4]
theorem same_ok {a p s : Nat} : ∀ (v : Nat) (x : St),x.ok a p s v → SmOk x
  | v,.leaf l,_ => fun lo h => by
    rw [St.row]
    exact same_row (same_blocks [] (by decide) fun l hl => by cases hl) lo h
  | v,.blk k n bs,h => fun lo h' => by
    simp only [St.ok] at h
    obtain ⟨u,rfl,hs,hb⟩ := h
    rw [St.row,Bs.rows_eq]
    refine same_row (same_blocks bs.list (by rw [Bs.list_len]; unfold shapeOk at hs; omega) fun l hl lo h => ?_) lo h'
    obtain ⟨g1,g2,g3⟩ := Bs.ok_mem bs hb l hl
    rw [Sl.rows_eq]
    exact sameAll_spec l.list (by rw [Sl.list_len]; omega) (fun x hx => same_ok u x (Sl.ok_mem l g3 x hx)) lo h
theorem Same_spec {a p s : Nat} {l : Sl} (h2 : l.len ≤ 2) (hok : l.ok a p s 2) (nm : List UInt8) (lo : Nat) (h : VHeap) : callVL vp lo n_parse_Same [.agg [.str nm,.list .s l.rows],.agg [.str nm,.list .s l.rows]] h = some (.bool true,h) := by
  refine call_valE (fn := parse_Same_v) rfl rfl rfl rfl rfl ?_ lo h
  have hA := sameAll_spec l.list (by rw [Sl.list_len]; omega) (fun x hx => same_ok 2 x (Sl.ok_mem l hok x hx))
  rw [← Sl.rows_eq] at hA
  have b1 : (nm == nm) = true := beq_self_eq_true _
  generalize l.rows = R at *
  simp -implicitDefEqProofs only [go_sem,↓reduceIte,reduceCtorEq,Int.reduceLT,Int.reduceLE,Int.reduceToNat,Nat.reduceAdd,Nat.reduceMul,Nat.reduceLeDiff,Nat.reduceLT,Nat.reduceSub,Int.reduceNeg,Int.reduceEq,Int.reduceBEq,Int.reduceBNe,Nat.reduceEqDiff,hA,b1]
/-- A text of one word. -/
def VW (t : List UInt8) : Prop := Vg.W.oneL t = (kindOf t,t.length,0)
theorem vw_part (i : Nat) : VW (partN i) := by unfold partN; split <;> exact (by kernel_rfl : Vg.W.oneL _ = _)
theorem vw_arm (i : Nat) : VW (armN i) := by unfold armN; split <;> exact (by kernel_rfl : Vg.W.oneL _ = _)
theorem vw_slot (i : Nat) : VW (slotN i) := by unfold slotN; split <;> exact (by kernel_rfl : Vg.W.oneL _ = _)
theorem vw_dig {m : Nat} (h1 : 1 ≤ m) (h3 : m ≤ 3) : VW (dig m) := by
  have hm : m = 1 ∨ m = 2 ∨ m = 3 := by omega
  rcases hm with rfl | rfl | rfl <;> exact (by kernel_rfl : Vg.W.oneL _ = _)
theorem vw_rtxt {d : Nat} (h4 : 4 ≤ d) (h8 : d ≤ 8) : VW (rtxt d) := by
  have hd : d = 4 ∨ d = 5 ∨ d = 6 ∨ d = 7 ∨ d = 8 := by omega
  rcases hd with rfl | rfl | rfl | rfl | rfl <;> exact (by kernel_rfl : Vg.W.oneL _ = _)
theorem vw_leaf {a p s : Nat} {l : Leaf} (g : l.ok a p s) : ∀ t ∈ l.words,VW t := by
  have e1 : VW [59] := by exact (by kernel_rfl : Vg.W.oneL _ = _)
  cases l with
  | put i j d =>
    have e2 : VW [112,117,116] := by exact (by kernel_rfl : Vg.W.oneL _ = _)
    have e3 : VW [105,110] := by exact (by kernel_rfl : Vg.W.oneL _ = _)
    have e4 : VW [119,105,116,104,105,110] := by exact (by kernel_rfl : Vg.W.oneL _ = _)
    simp only [Leaf.ok] at g
    simp only [Leaf.words,List.mem_append,List.mem_cons,List.not_mem_nil,or_false]
    rintro t (((rfl | rfl | rfl | rfl) | ht) | rfl)
    · exact e2
    · exact vw_part i
    · exact e3
    · exact vw_slot j
    · split at ht
      · cases ht
      · simp only [List.mem_cons,List.not_mem_nil,or_false] at ht
        rcases ht with rfl | rfl
        · exact e4
        · exact vw_rtxt (by omega) (by omega)
    · exact e1
  | hold i j =>
    simp only [Leaf.words,List.mem_append,List.mem_cons,List.not_mem_nil,or_false]
    rintro t ((rfl | rfl | rfl | rfl) | rfl)
    · exact (by kernel_rfl : Vg.W.oneL _ = _)
    · exact vw_part i
    · exact (by kernel_rfl : Vg.W.oneL _ = _)
    · exact vw_arm j
    · exact e1
  | free j =>
    simp only [Leaf.words,List.mem_append,List.mem_cons,List.not_mem_nil,or_false]
    rintro t ((rfl | rfl) | rfl)
    · exact (by kernel_rfl : Vg.W.oneL _ = _)
    · exact vw_arm j
    · exact e1
  | see i =>
    simp only [Leaf.words,List.mem_append,List.mem_cons,List.not_mem_nil,or_false]
    rintro t ((rfl | rfl) | rfl)
    · exact (by kernel_rfl : Vg.W.oneL _ = _)
    · exact vw_part i
    · exact e1
  | wait n =>
    simp only [Leaf.ok] at g
    simp only [Leaf.words,List.mem_append,List.mem_cons,List.not_mem_nil,or_false]
    rintro t ((rfl | rfl) | rfl)
    · exact (by kernel_rfl : Vg.W.oneL _ = _)
    · exact vw_dig g.1 g.2
    · exact e1
theorem vw_hdr {k n len : Nat} (hs : shapeOk k n len) : ∀ t ∈ hdr k n,VW t := by
  unfold shapeOk at hs
  rcases hs with ⟨rfl,rfl, -⟩ | ⟨rfl,h1,h2, -⟩ | ⟨rfl,rfl, -⟩ | ⟨rfl,rfl, -⟩ <;> simp only [hdr,Nat.reduceEqDiff,if_true,if_false,List.mem_cons,List.not_mem_nil,or_false]
  · rintro t rfl; exact (by kernel_rfl : Vg.W.oneL _ = _)
  · rintro t (rfl | rfl)
    · exact (by kernel_rfl : Vg.W.oneL _ = _)
    · exact vw_dig h1 (by omega)
  · rintro t rfl; exact (by kernel_rfl : Vg.W.oneL _ = _)
  · rintro t rfl; exact (by kernel_rfl : Vg.W.oneL _ = _)
theorem vw_sep (k : Nat) : VW (sepW k) := by unfold sepW; split <;> exact (by kernel_rfl : Vg.W.oneL _ = _)
mutual
theorem St.voc {a p s : Nat} : (x : St) → (v : Nat) → x.ok a p s v → ∀ t ∈ x.words,VW t
  | .leaf l,v,h => by rw [St.words]; exact vw_leaf (by simpa only [St.ok] using h)
  | .blk k n bs,v,h => by
    simp only [St.ok] at h
    obtain ⟨u,rfl,hs,hb⟩ := h
    rw [St.words]
    intro t ht
    rcases List.mem_append.1 ht with ht | ht
    · exact vw_hdr hs t ht
    · exact Bs.voc bs u hb k true t ht
theorem Sl.voc {a p s : Nat} : (x : Sl) → (v : Nat) → x.ok a p s v → ∀ t ∈ x.words,VW t
  | .nil,v,h => by rw [Sl.words]; intro t ht; cases ht
  | .cons y l,v,h => by
    simp only [Sl.ok] at h
    rw [Sl.words]
    intro t ht
    rcases List.mem_append.1 ht with ht | ht
    · exact St.voc y v h.1 t ht
    · exact Sl.voc l v h.2 t ht
theorem Bs.voc {a p s : Nat} : (x : Bs) → (v : Nat) → x.ok a p s v → ∀ (k : Nat) (f : Bool),∀ t ∈ x.words k f,VW t
  | .nil,v,h,k,f => by rw [Bs.words]; intro t ht; cases ht
  | .cons l b,v,h,k,f => by
    simp only [Bs.ok] at h
    rw [Bs.words]
    intro t ht
    rcases List.mem_append.1 ht with ht | ht
    · rcases List.mem_append.1 ht with ht | ht
      · cases f
        · simp only [if_false,Bool.false_eq_true,List.mem_cons,List.not_mem_nil,or_false] at ht
          subst ht; exact vw_sep k
        · simp only [if_true,List.not_mem_nil] at ht
      · rcases List.mem_append.1 ht with ht | ht
        · rcases List.mem_append.1 ht with ht | ht
          · simp only [List.mem_cons,List.not_mem_nil,or_false] at ht
            subst ht; exact (by kernel_rfl : Vg.W.oneL _ = _)
          · exact Sl.voc l v h.1.2.2 t ht
        · simp only [List.mem_cons,List.not_mem_nil,or_false] at ht
          subst ht; exact (by kernel_rfl : Vg.W.oneL _ = _)
    · exact Bs.voc b v h.2 k false t ht
end
theorem jobW_voc {a p s : Nat} {l : Sl} (hok : l.ok a p s 2) : ∀ t ∈ jobW l,VW t := by
  unfold jobW blkW
  rw [← Sl.words_eq]
  intro t ht
  simp only [List.mem_append,List.mem_cons,List.not_mem_nil,or_false] at ht
  rcases ht with (rfl | rfl) | (rfl | ht) | rfl
  · exact (by kernel_rfl : Vg.W.oneL _ = _)
  · exact (by kernel_rfl : Vg.W.oneL _ = _)
  · exact (by kernel_rfl : Vg.W.oneL _ = _)
  · exact Sl.voc l 2 hok t ht
  · exact (by kernel_rfl : Vg.W.oneL _ = _)
def mkW (t : List UInt8) : Wd := ⟨kindOf t,0,t⟩
theorem mkW_ok {t : List UInt8} (h : VW t) : Vg.W.wordOK (mkW t) := by
  unfold VW at h
  have := Vg.W.oneL_ok (u := t) (by rw [h]) 0
  rw [h] at this
  simpa only [List.take_length,mkW] using this
theorem zt0_keys {ks : List Wd} {L : List (List UInt8)} (h : ks.map Vg.W.zt0 = (L.map mkW).map Vg.W.zt0) : Mt ks L := by
  constructor
  · have := congrArg (List.map (·.text)) h
    simp only [List.map_map] at this
    have e1 : (fun x : Wd => x.text) ∘ Vg.W.zt0 = fun x => x.text := rfl
    have e2 : (fun x : Wd => x.text) ∘ Vg.W.zt0 ∘ mkW = id := rfl
    rw [e1,e2,List.map_id] at this
    exact this
  · intro w hw
    have : Vg.W.zt0 w ∈ (L.map mkW).map Vg.W.zt0 := h ▸ List.mem_map_of_mem hw
    rw [List.map_map] at this
    obtain ⟨t,_,ht⟩ := List.mem_map.1 this
    have h1 : kindOf t = w.kind := congrArg (·.kind) ht
    have h2 : t = w.text := congrArg (·.text) ht
    rw [← h1,h2]
theorem read_jobW {a p s : Nat} {l : Sl} (h2 : l.len ≤ 2) (hok : l.ok a p s 2) : ∃ ks,Vg.W.readF ([32].intercalate (jobW l)) = .ok ks ∧ Mt ks (jobW l) := by
  have e : ((jobW l).map mkW).map (·.text) = jobW l := by
    rw [List.map_map]
    have : (fun x : Wd => x.text) ∘ mkW = id := rfl
    rw [this,List.map_id]
  have hT := jobW_le h2 hok
  have hI := inter_le (jobW l)
  obtain ⟨ks,h1,h3⟩ := Vg.W.back_law (ws := (jobW l).map mkW) (fun w hw => by
    obtain ⟨t,ht,rfl⟩ := List.mem_map.1 hw
    exact mkW_ok (jobW_voc hok t ht)) (by rw [e]; omega)
  rw [e] at h1
  exact ⟨ks,h1,zt0_keys h3⟩
theorem parsed_run : callV vp 60 0 n_gantkeep4_parsed [] [] = some (.bool true,[]) := by kernel_rfl
/-- The law ParseBack. -/
theorem ParseBack_law (raw l : List Int) (lo : Nat) (h : VHeap) : callVL vp lo n_gantkeep4_ParseBack [.list .s (raw.map fun x => [.int .i64 x]),.list .s (l.map fun x => [.int .i64 x])] h = some (.bool true,h) := by
  refine call_valE (fn := gantkeep4_ParseBack_v) rfl rfl rfl rfl rfl ?_ lo h
  obtain ⟨a,p,s,h1,h2,h3,h4,h5,h6,hS⟩ := Small_spec raw
  obtain ⟨g1,g2,g3⟩ := gS_ok h1 h2 h3 h4 h5 h6 2 l
  have hJ := Job_spec h1 h2 h3 h4 h5 h6 l
  generalize (gS a p s 2 l).1 = J at *
  have hw : (J.list.map St.wt).sum ≤ 100 := by
    have := sum_le_mul (l := J.list.map St.wt) (m := 21) fun x hx => by
      obtain ⟨y,hy,rfl⟩ := List.mem_map.1 hx
      exact wt_le 2 y (Sl.ok_mem _ g3 y hy)
    rw [List.length_map,Sl.list_len] at this
    omega
  have hP := Print_spec g2 g3 hw
  obtain ⟨ks,e1,e2⟩ := read_jobW g2 g3
  have hR := Read_job g2 g3 hw e1 e2
  have hE := Same_spec g2 g3 [116,97,115,107]
  have hp := fun lo h => call_eval (fn := gantkeep4_parsed_v) rfl rfl rfl rfl parsed_run lo h
  unfold jobV at *
  unfold smallV at *
  generalize armsR.take a = AR at *
  generalize partsR.take p = PR at *
  generalize slotsR.take s = SR at *
  generalize ([32].intercalate (jobW J) : List UInt8) = S at *
  generalize J.rows = R at *
  simp -implicitDefEqProofs (maxSteps := 1000000) only [go_sem,↓reduceIte,reduceCtorEq,Int.reduceLT,Int.reduceLE,Int.reduceToNat,Nat.reduceAdd,Nat.reduceMul,Nat.reduceLeDiff,Nat.reduceLT,Nat.reduceSub,Int.reduceNeg,Int.reduceEq,Int.reduceBEq,Int.reduceBNe,Nat.reduceEqDiff,hS,hJ,hP,hR,hE,hp]
end Vg.G3
