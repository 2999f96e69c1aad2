import Derived.Test.YtpikplkdlbnffaaGreatDoorVM5
namespace Vg.G3
open Go Lg Vg.Nm
set_option linter.unusedSimpArgs false
set_option linter.unusedVariables false
set_option maxRecDepth 10000
set_option maxHeartbeats 8000000
attribute [local congr] bind_congr1
attribute [local go_sem] parse_stmts_r0 parse_stmts_r1 parse_stmts_r2 parse_stmts_r3 parse_stmts_r4 parse_stmts_r5 parse_stmts_r6 parse_stmts_r7 parse_stmts_r8 parse_stmts_r9 parse_stmts_r10 parse_stmts_r11 parse_stmts_r12 parse_stmts_r13 parse_stmts_r14 parse_stmts_f parse_stmts_v parse_stmt_r0 parse_stmt_r1 parse_stmt_r2 parse_stmt_r3 parse_stmt_r4 parse_stmt_r5 parse_stmt_r6 parse_stmt_r7 parse_stmt_r8 parse_stmt_r9 parse_stmt_r10 parse_stmt_r11 parse_stmt_r12 parse_stmt_r13 parse_stmt_r14 parse_stmt_r15 parse_stmt_r16 parse_stmt_r17 parse_stmt_r18 parse_stmt_r19 parse_stmt_f parse_stmt_v

theorem cast0 : ((0 : Nat) : Int) = 0 := rfl
theorem cast1 : ((1 : Nat) : Int) = 1 := rfl
theorem le_sum {l : List Nat} {x : Nat} (h : x ∈ l) : x ≤ l.sum := by
  induction l with
  | nil => cases h
  | cons a l ih =>
    rw [List.sum_cons]
    rcases List.mem_cons.1 h with rfl | h
    · omega
    · have := ih h; omega
theorem sum_take_succ {l : List Nat} {i x : Nat} (h : l[i]? = some x) : (l.take (i + 1)).sum = (l.take i).sum + x := by
  rw [List.take_add_one,h,List.sum_append]; simp
theorem sum_take_le (l : List Nat) (i : Nat) : (l.take i).sum ≤ l.sum := by
  have h : l.sum = (l.take i ++ l.drop i).sum := by rw [List.take_append_drop]
  rw [h,List.sum_append]; omega
/-- A statement that weighs w is right. -/
def StOk (s : St) (dp : Int) (w : Nat) : Prop := w ≤ 100 ∧ ∀ lo h,callVL vp lo n_parse_stmt [.agg s.row,.int .i64 dp] h = some (.tup [.int .i64 (w : Nat),.int .i64 0],h)
def big (w : Nat) : VV := .tup [.int .i64 ((if w ≤ 100 then w else 0 : Nat) : Int),.int .i64 (if w ≤ 100 then 0 else 2)]
/-- stmts. -/
theorem pstmts_spec (L : List St) {dp : Int} (hdp : ¬ 5 < dp) (hL : L.length ≤ 1000) (hW : ∀ s ∈ L,StOk s dp s.wt) (lo : Nat) (h : VHeap) : callVL vp lo n_parse_stmts [.list .s (L.map St.row),.int .i64 dp] h = some (big (L.map St.wt).sum,h) := by
  refine call_valE (fn := parse_stmts_v) rfl rfl rfl rfl rfl ?_ lo h
  obtain ⟨P,hP⟩ : ∃ P : VV → Prop,P = fun w : VV => w = big (L.map St.wt).sum := ⟨_,rfl⟩
  have hP1 : (L.map St.wt).sum ≤ 100 → P (.tup [.int .i64 (((L.map St.wt).sum : Nat) : Int),.int .i64 0]) := fun h => by subst hP; unfold big; rw [if_pos h,if_pos h]
  have hP2 : ¬ (L.map St.wt).sum ≤ 100 → P (.tup [.int .i64 0,.int .i64 2]) := fun h => by subst hP; unfold big; rw [if_neg h,if_neg h]; rfl
  have hP3 : (fun r : VV × VHeap => r.1 = big (L.map St.wt).sum) = fun r => P r.1 := by subst hP; rfl
  rw [hP3]
  clear hP hP3
  have hlen : (L.map St.row).length = L.length := List.length_map _
  simp -implicitDefEqProofs only [go_sem,↓reduceIte,reduceCtorEq,Int.reduceLT,Int.reduceLE,Int.reduceToNat,Nat.reduceAdd,Nat.reduceMul,Nat.reduceLeDiff,Nat.reduceLT,Nat.reduceSub,Int.reduceNeg,Int.reduceEq,Int.reduceBEq,Int.reduceBNe,Nat.reduceEqDiff,hdp,hlen]
  rw [Sat_bind]
  refine loop_up (I := fun i env h' => h' = [] ∧ ((L.map St.wt).take i).sum ≤ 100 ∧ env = [.undef,.int .i64 dp,.undef,.undef,.undef,.undef,.int .i64 ((((L.map St.wt).take i).sum : Nat) : Int),.undef,.undef,.undef,.undef,.undef,.undef,.list .s (L.map St.row),.int .i64 ((L.length : Nat) : Int),.int .i64 ((i : Nat) : Int),.undef,.undef,.undef,.undef,.undef,.undef,.undef,.undef,.undef,.undef,.undef,.undef,.undef,.undef,.undef,.undef,.undef,.undef,.undef]) L.length ?_ ?_ (Nat.zero_le _) ⟨rfl,by simp,by simp -implicitDefEqProofs only [go_sem,↓reduceIte,reduceCtorEq,Int.reduceLT,Int.reduceLE,Int.reduceToNat,Nat.reduceAdd,Nat.reduceMul,Nat.reduceLeDiff,Nat.reduceLT,Nat.reduceSub,Int.reduceNeg,Int.reduceEq,Int.reduceBEq,Int.reduceBNe,Nat.reduceEqDiff,List.take_zero,List.sum_nil,cast0]⟩
  · rintro i env h' hi ⟨rfl,hs,rfl⟩
    have hi' : (i : Int) < (L.length : Int) := by omega
    obtain ⟨x,hx⟩ : ∃ x,L[i]? = some x := ⟨L[i],List.getElem?_eq_getElem hi⟩
    have hg := get_map (F := St.row) hx
    have hx2 : (L.map St.wt)[i]? = some x.wt := by rw [List.getElem?_map,hx]; rfl
    obtain ⟨w100,hw⟩ := hW x (List.mem_of_getElem? hx)
    have hsum := sum_take_succ hx2
    have hle := sum_take_le (L.map St.wt) (i + 1)
    obtain ⟨k,A,B,n,d,N,bs,hr⟩ := x.row_x
    rw [hr] at hg hw
    clear hr hW hx2
    generalize ((L.map St.wt).take i).sum = S at *
    generalize x.wt = w at *
    have ws : IntKind.i64.wrap ((S : Int) + (w : Int)) = ((S + w : Nat) : Int) := by rw [wrap_id (by omega) (by omega)]; rfl
    have wi := wrap_succ (i := i) (by omega)
    by_cases hb : S + w ≤ 100
    · have hb' : ¬ (100 : Int) < ((S + w : Nat) : Int) := by omega
      simp -implicitDefEqProofs only [parse_stmts_b0,go_sem,↓reduceIte,reduceCtorEq,Int.reduceLT,Int.reduceLE,Int.reduceToNat,Nat.reduceAdd,Nat.reduceMul,Nat.reduceLeDiff,Nat.reduceLT,Nat.reduceSub,Int.reduceNeg,Int.reduceEq,Int.reduceBEq,Int.reduceBNe,Nat.reduceEqDiff,hi',hg,hw,ws,wi,hb',hsum,hb]
    · have hb' : (100 : Int) < ((S + w : Nat) : Int) := by omega
      have hP4 := hP2 (by omega)
      simp -implicitDefEqProofs only [parse_stmts_b0,go_sem,↓reduceIte,reduceCtorEq,Int.reduceLT,Int.reduceLE,Int.reduceToNat,Nat.reduceAdd,Nat.reduceMul,Nat.reduceLeDiff,Nat.reduceLT,Nat.reduceSub,Int.reduceNeg,Int.reduceEq,Int.reduceBEq,Int.reduceBNe,Nat.reduceEqDiff,hi',hg,hw,ws,wi,hb']
      exact hP4
  · rintro env h' ⟨rfl,hs,rfl⟩
    rw [show (L.map St.wt).take L.length = L.map St.wt from List.take_of_length_le (by rw [List.length_map]; exact Nat.le_refl _)] at hs ⊢
    have hP5 := hP1 hs
    generalize (L.map St.wt).sum = S at *
    simp -implicitDefEqProofs only [parse_stmts_b0,go_sem,↓reduceIte,reduceCtorEq,Int.reduceLT,Int.reduceLE,Int.reduceToNat,Nat.reduceAdd,Nat.reduceMul,Nat.reduceLeDiff,Nat.reduceLT,Nat.reduceSub,Int.reduceNeg,Int.reduceEq,Int.reduceBEq,Int.reduceBNe,Nat.reduceEqDiff,Int.lt_irrefl]
    exact hP5
/-- stmt,of a statement with blocks. -/
theorem pblk_spec {k n : Nat} {L : List Sl} {dp : Int} (hd0 : 0 ≤ dp) (hd5 : dp ≤ 100) (g : SH k n L.length) (hW : ∀ l ∈ L,l.wt ≤ 100 ∧ ∀ lo h,callVL vp lo n_parse_stmts [.list .s l.rows,.int .i64 (dp + 1)] h = some (.tup [.int .i64 (l.wt : Nat),.int .i64 0],h)) (lo : Nat) (h : VHeap) :
    callVL vp lo n_parse_stmt [.agg [.int .i64 (k : Nat),.str [],.str [],.bool false,.str [],.str [],.int .i64 (n : Nat),.list .s (L.map fun l => [.list .s l.rows])],.int .i64 dp] h = some (big (1 + (L.map Sl.wt).sum * max n 1),h) := by
  refine call_valE (fn := parse_stmt_v) rfl rfl rfl rfl rfl ?_ lo h
  obtain ⟨W,hWW⟩ : ∃ W,W = 1 + (L.map Sl.wt).sum * max n 1 := ⟨_,rfl⟩
  rw [← hWW]
  obtain ⟨P,hP⟩ : ∃ P : VV → Prop,P = fun w : VV => w = big W := ⟨_,rfl⟩
  have hP1 : W ≤ 100 → P (.tup [.int .i64 ((W : Nat) : Int),.int .i64 0]) := fun h => by subst hP; unfold big; rw [if_pos h,if_pos h]
  have hP2 : ¬ W ≤ 100 → P (.tup [.int .i64 0,.int .i64 2]) := fun h => by subst hP; unfold big; rw [if_neg h,if_neg h]; rfl
  have hP3 : (fun r : VV × VHeap => r.1 = big W) = fun r => P r.1 := by subst hP; rfl
  rw [hP3]
  clear hP hP3
  have hlen : (L.map fun l => [VV.list .s l.rows]).length = L.length := List.length_map _
  have hS := shape_blk (R := L.map fun l => [VV.list .s l.rows]) (k := k) (n := n) (by rw [hlen]; exact g)
  have hk := g.ok
  have k1 : ¬ ((k : Int) < 1) := by omega
  have k2 : ¬ (9 < (k : Int)) := by omega
  have k3 : ¬ ((k : Int) < 6) := by omega
  have n5 : n ≤ 5 := by omega
  have L4 : L.length ≤ 4 := by omega
  have wd : IntKind.i64.wrap (dp + 1) = dp + 1 := wrap_id (by omega) (by omega)
  simp -implicitDefEqProofs only [go_sem,↓reduceIte,reduceCtorEq,Int.reduceLT,Int.reduceLE,Int.reduceToNat,Nat.reduceAdd,Nat.reduceMul,Nat.reduceLeDiff,Nat.reduceLT,Nat.reduceSub,Int.reduceNeg,Int.reduceEq,Int.reduceBEq,Int.reduceBNe,Nat.reduceEqDiff,hS,k1,k2,k3,hlen]
  rw [Sat_bind]
  refine loop_up (I := fun i env h' => h' = [.cells true [.int .i64 (k : Nat),.str [],.str [],.bool false,.str [],.str [],.int .i64 (n : Nat),.list .s (L.map fun l => [.list .s l.rows])]] ∧ 1 + ((L.map Sl.wt).take i).sum * max n 1 ≤ 100 ∧ env = (VV.undef :: (.int .i64 dp : VV) :: (.ptr 0 0 : VV) :: VV.undef :: VV.undef :: VV.undef :: VV.undef :: (.int .i64 ((1 + ((L.map Sl.wt).take i).sum * max n 1 : Nat) : Int) : VV) :: VV.undef :: VV.undef :: VV.undef :: VV.undef :: VV.undef :: VV.undef :: VV.undef :: VV.undef :: VV.undef :: VV.undef :: VV.undef :: VV.undef :: VV.undef :: VV.undef :: VV.undef :: VV.undef :: VV.undef :: VV.undef :: VV.undef :: VV.undef :: VV.undef :: VV.undef :: VV.undef :: (.list .s (L.map fun l => [.list .s l.rows]) : VV) :: (.int .i64 ((L.length : Nat) : Int) : VV) :: (.int .i64 ((i : Nat) : Int) : VV) :: VV.undef :: VV.undef :: VV.undef :: VV.undef :: VV.undef :: VV.undef :: VV.undef :: VV.undef :: VV.undef :: VV.undef :: VV.undef :: VV.undef :: VV.undef :: VV.undef :: VV.undef :: VV.undef :: VV.undef :: VV.undef :: VV.undef :: VV.undef :: VV.undef :: VV.undef :: VV.undef :: VV.undef :: [])) L.length ?_ ?_ (Nat.zero_le _) ⟨rfl,by simp,by simp -implicitDefEqProofs only [go_sem,↓reduceIte,reduceCtorEq,Int.reduceLT,Int.reduceLE,Int.reduceToNat,Nat.reduceAdd,Nat.reduceMul,Nat.reduceLeDiff,Nat.reduceLT,Nat.reduceSub,Int.reduceNeg,Int.reduceEq,Int.reduceBEq,Int.reduceBNe,Nat.reduceEqDiff,List.take_zero,List.sum_nil,Nat.zero_mul,cast1]⟩
  · rintro i env h' hi ⟨rfl,hs,rfl⟩
    have hi' : (i : Int) < (L.length : Int) := by omega
    obtain ⟨x,hx⟩ : ∃ x,L[i]? = some x := ⟨L[i],List.getElem?_eq_getElem hi⟩
    have hg := get_map (F := fun l : Sl => [VV.list .s l.rows]) hx
    have hx2 : (L.map Sl.wt)[i]? = some x.wt := by rw [List.getElem?_map,hx]; rfl
    obtain ⟨w100,hw⟩ := hW x (List.mem_of_getElem? hx)
    have hsum : 1 + ((L.map Sl.wt).take (i + 1)).sum * max n 1 = 1 + ((L.map Sl.wt).take i).sum * max n 1 + x.wt * max n 1 := by rw [sum_take_succ hx2,Nat.add_mul]; omega
    have hle := Nat.mul_le_mul_right (max n 1) (sum_take_le (L.map Sl.wt) (i + 1))
    have hmx : max (n : Int) 1 = ((max n 1 : Nat) : Int) := by omega
    have hwm : x.wt * max n 1 ≤ 500 := Nat.le_trans (Nat.mul_le_mul w100 (show max n 1 ≤ 5 by omega)) (by decide)
    have hwe : ((x.wt : Nat) : Int) * ((max n 1 : Nat) : Int) = ((x.wt * max n 1 : Nat) : Int) := by rw [Int.natCast_mul]
    clear hW hx2 hP1
    rw [hsum]
    generalize 1 + ((L.map Sl.wt).take i).sum * max n 1 = S at *
    generalize x.rows = R at *
    generalize hX : x.wt * max n 1 = X at *
    have wm : IntKind.i64.wrap ((X : Nat) : Int) = ((X : Nat) : Int) := wrap_id (by omega) (by omega)
    have ws : IntKind.i64.wrap ((S : Int) + (X : Int)) = ((S + X : Nat) : Int) := by rw [wrap_id (by omega) (by omega)]; rfl
    have wi := wrap_succ (i := i) (by omega)
    by_cases hb : S + X ≤ 100
    · have hb' : ¬ (100 : Int) < ((S + X : Nat) : Int) := by omega
      simp -implicitDefEqProofs only [parse_stmt_b0,go_sem,↓reduceIte,reduceCtorEq,Int.reduceLT,Int.reduceLE,Int.reduceToNat,Nat.reduceAdd,Nat.reduceMul,Nat.reduceLeDiff,Nat.reduceLT,Nat.reduceSub,Int.reduceNeg,Int.reduceEq,Int.reduceBEq,Int.reduceBNe,Nat.reduceEqDiff,hi',hg,hw,wd,hmx,hwe,wm,ws,wi,hb',hb]
    · have hb' : (100 : Int) < ((S + X : Nat) : Int) := by omega
      have hP4 := hP2 (by omega)
      simp -implicitDefEqProofs only [parse_stmt_b0,go_sem,↓reduceIte,reduceCtorEq,Int.reduceLT,Int.reduceLE,Int.reduceToNat,Nat.reduceAdd,Nat.reduceMul,Nat.reduceLeDiff,Nat.reduceLT,Nat.reduceSub,Int.reduceNeg,Int.reduceEq,Int.reduceBEq,Int.reduceBNe,Nat.reduceEqDiff,hi',hg,hw,wd,hmx,hwe,wm,ws,wi,hb']
      exact hP4
  · rintro env h' ⟨rfl,hs,rfl⟩
    rw [show (L.map Sl.wt).take L.length = L.map Sl.wt from List.take_of_length_le (by rw [List.length_map]; exact Nat.le_refl _),← hWW] at hs ⊢
    have hP5 := hP1 hs
    simp -implicitDefEqProofs only [parse_stmt_b0,go_sem,↓reduceIte,reduceCtorEq,Int.reduceLT,Int.reduceLE,Int.reduceToNat,Nat.reduceAdd,Nat.reduceMul,Nat.reduceLeDiff,Nat.reduceLT,Nat.reduceSub,Int.reduceNeg,Int.reduceEq,Int.reduceBEq,Int.reduceBNe,Nat.reduceEqDiff,Int.lt_irrefl]
    exact hP5
theorem pleaf_spec {a p s : Nat} {l : Leaf} (g : l.ok a p s) (dp : Int) : StOk (.leaf l) dp 1 := by
  refine ⟨by decide,fun lo h => ?_⟩
  refine call_valE (fn := parse_stmt_v) rfl rfl rfl rfl rfl ?_ lo h
  have hp := plain_leaf g
  have hk : 1 ≤ l.kind ∧ l.kind ≤ 5 := by cases l <;> simp only [Leaf.kind] <;> omega
  have k1 : ¬ l.kind < 1 := by omega
  have k2 : ¬ 9 < l.kind := by omega
  have k3 : l.kind < 6 := by omega
  rw [St.row]
  unfold Leaf.row at *
  generalize l.kind = K at *
  generalize l.A = A at *
  generalize l.B = B at *
  generalize wn l.d = n at *
  generalize wd l.d = d at *
  generalize l.n = N at *
  simp -implicitDefEqProofs only [parse_stmt_b0,go_sem,↓reduceIte,reduceCtorEq,Int.reduceLT,Int.reduceLE,Int.reduceToNat,Nat.reduceAdd,Nat.reduceMul,Nat.reduceLeDiff,Nat.reduceLT,Nat.reduceSub,Int.reduceNeg,Int.reduceEq,Int.reduceBEq,Int.reduceBNe,Nat.reduceEqDiff,hp,k1,k2,k3,cast1]
/-- How much a statement with so many levels of blocks may weigh. -/
def wMax : Nat → Nat
  | 0 => 1
  | v + 1 => 1 + 2 * (2 * wMax v)
theorem sum_le_mul {l : List Nat} {m : Nat} (h : ∀ x ∈ l,x ≤ m) : l.sum ≤ l.length * m := by
  induction l with
  | nil => simp
  | cons a l ih =>
    rw [List.sum_cons,List.length_cons,Nat.succ_mul]
    have := h a (List.mem_cons_self ..)
    have := ih fun x hx => h x (List.mem_cons_of_mem _ hx)
    omega
theorem wt_le {a p s : Nat} : ∀ (v : Nat) (x : St),x.ok a p s v → x.wt ≤ wMax v
  | v,.leaf l,_ => by
    rw [St.wt]
    induction v with
    | zero => exact Nat.le_refl _
    | succ v ih => simp only [wMax]; omega
  | v,.blk k n bs,h => by
    simp only [St.ok] at h
    obtain ⟨u,rfl,hs,hb⟩ := h
    have hl : ∀ l ∈ bs.list,l.wt ≤ 2 * wMax u := fun l hl => by
      obtain ⟨-,h2,h3⟩ := Bs.ok_mem bs hb l hl
      rw [Sl.wt_eq]
      refine Nat.le_trans (sum_le_mul fun x hx => ?_) (Nat.mul_le_mul_right (wMax u) (show (l.list.map St.wt).length ≤ 2 by rw [List.length_map,Sl.list_len]; exact h2))
      obtain ⟨y,hy,rfl⟩ := List.mem_map.1 hx
      exact wt_le u y (Sl.ok_mem l h3 y hy)
    rw [St.wt,Bs.wt_eq]
    have h1 : (bs.list.map Sl.wt).sum ≤ bs.len * (2 * wMax u) := by
      rw [← Bs.list_len,← List.length_map (f := Sl.wt)]
      exact sum_le_mul fun x hx => by obtain ⟨y,hy,rfl⟩ := List.mem_map.1 hx; exact hl y hy
    simp only [wMax]
    unfold shapeOk at hs
    have h2 : (bs.list.map Sl.wt).sum * max n 1 ≤ 2 * (2 * wMax u) := by
      rcases hs with ⟨_,rfl,hl⟩ | ⟨_,h1',h2',hl⟩ | ⟨_,rfl,hl⟩ | ⟨_,rfl,hl⟩ <;> rw [hl] at h1
      · rw [show max 0 1 = 1 from rfl,Nat.mul_one]; omega
      · rw [Nat.mul_comm 2]; exact Nat.mul_le_mul (by omega) (by omega)
      · rw [show max 0 1 = 1 from rfl,Nat.mul_one]; omega
      · rw [show max 0 1 = 1 from rfl,Nat.mul_one]; omega
    omega
theorem st_ok {a p s : Nat} : ∀ (v : Nat),v ≤ 2 → ∀ (x : St),x.ok a p s v → ∀ dp : Int,0 ≤ dp → dp + (v : Nat) ≤ 5 → StOk x dp x.wt
  | v,hv,.leaf l,h,dp,h0,h5 => by rw [St.wt]; exact pleaf_spec (by simpa only [St.ok] using h) dp
  | v,hv,.blk k n bs,h,dp,h0,h5 => by
    have hw := wt_le v (.blk k n bs) h
    have hm : wMax v ≤ 21 := by
      have : v = 0 ∨ v = 1 ∨ v = 2 := by omega
      rcases this with rfl | rfl | rfl <;> decide
    simp only [St.ok] at h
    obtain ⟨u,rfl,hs,hb⟩ := h
    refine ⟨by omega,fun lo h => ?_⟩
    rw [St.wt] at hw ⊢
    rw [St.row,Bs.rows_eq]
    have hl : ∀ l ∈ bs.list,l.wt ≤ 42 := fun l hl => by
      have h1 : (bs.list.map Sl.wt).sum ≤ (bs.list.map Sl.wt).sum * max n 1 := Nat.le_mul_of_pos_right _ (by omega)
      have h2 : l.wt ≤ (bs.list.map Sl.wt).sum := le_sum (List.mem_map_of_mem hl)
      rw [Bs.wt_eq] at hw
      omega
    have := pblk_spec (k := k) (n := n) (L := bs.list) (dp := dp) h0 (by omega) (SH.of (by rw [Bs.list_len]; exact hs)) (fun l hm' => ⟨by have := hl l hm'; omega,fun lo h => by
      obtain ⟨g1,g2,g3⟩ := Bs.ok_mem bs hb l hm'
      have := pstmts_spec l.list (dp := dp + 1) (by omega) (by rw [Sl.list_len]; omega) (fun x hx => st_ok u (by omega) x (Sl.ok_mem l g3 x hx) (dp + 1) (by omega) (by omega)) lo h
      rw [← Sl.rows_eq,← Sl.wt_eq] at this
      rw [this]
      unfold big
      rw [if_pos (by have := hl l hm'; omega),if_pos (by have := hl l hm'; omega)]⟩) lo h
    rw [this,← Bs.wt_eq]
    unfold big
    rw [if_pos (by omega),if_pos (by omega)]
end Vg.G3
namespace Vg.G3
open Go Lg Vg.Nm
set_option linter.unusedSimpArgs false
set_option linter.unusedVariables false
set_option maxRecDepth 10000
set_option maxHeartbeats 8000000
attribute [local congr] bind_congr1
attribute [local go_sem] parse_Check_r0 parse_Check_r1 parse_Check_r2 parse_Check_r3 parse_Check_r4 parse_Check_f parse_Check_v

/-- Check of a job. -/
theorem Check_spec {a p s : Nat} {nm : List UInt8} (hn : NM nm) {L : List St} (hL : L.length ≤ 1000) (hok : ∀ x ∈ L,x.ok a p s 2) (lo : Nat) (h : VHeap) : callVL vp lo n_parse_Check [.agg [.str nm,.list .s (L.map St.row)]] h = some (.int .i64 (if (L.map St.wt).sum ≤ 100 then 0 else 2),h) := by
  refine call_valE (fn := parse_Check_v) rfl rfl rfl rfl rfl ?_ lo h
  have hp := pstmts_spec L (dp := 1) (by decide) hL (fun x hx => st_ok 2 (Nat.le_refl _) x (hok x hx) 1 (by decide) (by decide))
  have hN := hn.name
  unfold big at hp
  generalize (if (L.map St.wt).sum ≤ 100 then (0 : Int) else 2) = E at *
  generalize (((if (L.map St.wt).sum ≤ 100 then (L.map St.wt).sum else 0 : Nat)) : Int) = F at *
  simp -implicitDefEqProofs only [go_sem,↓reduceIte,reduceCtorEq,Int.reduceLT,Int.reduceLE,Int.reduceToNat,Nat.reduceAdd,Nat.reduceMul,Nat.reduceLeDiff,Nat.reduceLT,Nat.reduceSub,Int.reduceNeg,Int.reduceEq,Int.reduceBEq,Int.reduceBNe,Nat.reduceEqDiff,hp,hN]
end Vg.G3
