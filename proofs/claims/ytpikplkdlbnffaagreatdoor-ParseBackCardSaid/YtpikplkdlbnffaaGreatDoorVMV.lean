import Derived.Test.YtpikplkdlbnffaaGreatDoorVMP
import Derived.Test.YtpikplkdlbnffaaGreatDoorVMI
import Derived.Test.YtpikplkdlbnffaaGreatDoorVM8
namespace Vg.G3
open Go Lg Vg.Nm
set_option linter.unusedSimpArgs false
set_option linter.unusedVariables false
set_option maxRecDepth 10000
set_option maxHeartbeats 8000000
attribute [local congr] bind_congr1
attribute [local go_sem] parse_reader_block_r0 parse_reader_block_r1 parse_reader_block_r2 parse_reader_block_r3 parse_reader_block_r4 parse_reader_block_r5 parse_reader_block_r6 parse_reader_block_r7 parse_reader_block_r8 parse_reader_block_r9 parse_reader_block_r10 parse_reader_block_r11 parse_reader_block_f parse_reader_block_v

/-- The first word of a statement closes no block. -/
theorem St.head (x : St) : ∃ t L,x.words = t :: L ∧ (t == [125]) = false ∧ (t == [111,114]) = false := by
  cases x with
  | leaf l =>
    rw [St.words]
    cases l <;> simp only [Leaf.words,List.cons_append] <;> exact ⟨_,_,rfl,rfl,rfl⟩
  | blk k n bs =>
    rw [St.words]
    unfold hdr
    split
    · exact ⟨_,_,rfl,rfl,rfl⟩
    · split
      · exact ⟨_,_,rfl,rfl,rfl⟩
      · split <;> exact ⟨_,_,rfl,rfl,rfl⟩
theorem noOr_of {M : List St} {us vs : List Wd} (h : Mt us (M.flatMap St.words ++ [[125]])) : NoOr (us ++ vs) := by
  cases M with
  | nil =>
    rw [List.flatMap_nil,List.nil_append] at h
    obtain ⟨w,ur,rfl,tw, -, -⟩ := h.cons
    exact ⟨w,ur ++ vs,rfl,by rw [tw]; rfl⟩
  | cons x M =>
    obtain ⟨t,L,hw, -,hne⟩ := x.head
    rw [List.flatMap_cons,hw,List.cons_append,List.cons_append] at h
    obtain ⟨w,ur,rfl,tw, -, -⟩ := h.cons
    exact ⟨w,ur ++ vs,rfl,by rw [tw]; exact hne⟩
theorem rows8 (M : List St) : ((M.map St.row).all fun x => decide (x.length = 8)) = true := by
  rw [List.all_eq_true]; intro r hr; obtain ⟨y,_,rfl⟩ := List.mem_map.1 hr; simp only [St.row_len,decide_true]
section
variable {lo q n : Nat} {hp : VBlk → VHeap}
theorem rblock_spec (H : HH lo q n hp) {M : List St} {dp : Int} (hdp : ¬ 5 < dp) (hM : M.length ≤ 1000) (hR : ∀ x ∈ M,RdOk x dp) (us vs : List Wd) (left : Int) (hm : Mt us ([[123]] ++ M.flatMap St.words ++ [[125]])) (hn : ((M.map St.num).sum : Int) ≤ left) (hl : left ≤ 100) :
    callVL vp lo n_parse_reader_block [.ptr q 0,.int .i64 dp] (hp (rdB (us ++ vs) left)) = some (.tup [.list .s (M.map St.row),.int .i64 0],hp (rdB vs (left - ((M.map St.num).sum : Nat)))) := by
  obtain ⟨P,hPP⟩ : ∃ P : VV × VHeap → Prop,P = fun r => r = (.tup [.list .s (M.map St.row),.int .i64 0],hp (rdB vs (left - ((M.map St.num).sum : Nat)))) := ⟨_,rfl⟩
  have key := call_body (p := vp) (lo := lo) (h := hp (rdB (us ++ vs) left)) (f := n_parse_reader_block) (fn := parse_reader_block_v) (args := [.ptr q 0,.int .i64 dp]) (P := P) rfl (.inl rfl) rfl ?_
  · obtain ⟨r,hr,hp⟩ := key; subst hPP; rw [hr,hp]
  have hP1 : P (.tup [.list .s (M.map St.row),.int .i64 0],hp (rdB vs (left - ((M.map St.num).sum : Nat)))) := by subst hPP; rfl
  clear hPP
  have hlen := H.len
  have g0 := H.get0
  have s0 := H.set0
  have tk := H.take
  have tk' := H.take'
  have l0 := H.lo0
  have q0 := H.q0
  rw [List.append_assoc] at hm
  obtain ⟨w0,us,rfl,t0,k0,hm⟩ := hm.cons
  have T0 := take_yes H w0 (us ++ vs) t0 left
  rw [List.cons_append]
  generalize hX0 : rdB (w0 :: (us ++ vs)) left = X0 at *
  generalize hX1 : rdB (us ++ vs) left = X1 at *
  simp -implicitDefEqProofs only [go_sem,↓reduceIte,reduceCtorEq,Int.reduceLT,Int.reduceLE,Int.reduceToNat,Nat.reduceAdd,Nat.reduceMul,Nat.reduceLeDiff,Nat.reduceLT,Nat.reduceSub,Int.reduceNeg,Int.reduceEq,Int.reduceBEq,Int.reduceBNe,Nat.reduceEqDiff,hlen,tk,tk',hdp,T0]
  rw [Sat_bind]
  refine loop_up (I := fun i env h' => ∃ ui : List Wd,Mt ui ((M.drop i).flatMap St.words ++ [[125]]) ∧ h' = hp (rdB (ui ++ vs) (left - (((M.map St.num).take i).sum : Nat))) ∧ env = [.ptr q 0,.int .i64 dp,.undef,.undef,.undef,.undef,.list .o ((M.take i).map St.row),.undef,.undef,.undef,.undef,.undef,.undef,.undef,.undef,.undef,.undef,.undef,.undef,.undef,.undef,.undef,.undef,.undef,.undef,.undef,.undef,.undef,.undef,.undef,.undef]) M.length ?_ ?_ (Nat.zero_le _) ⟨us,hm,by rw [← hX1,List.take_zero,List.sum_nil]; simp only [Int.natCast_zero,Int.sub_zero],by simp -implicitDefEqProofs only [go_sem,↓reduceIte,reduceCtorEq,Int.reduceLT,Int.reduceLE,Int.reduceToNat,Nat.reduceAdd,Nat.reduceMul,Nat.reduceLeDiff,Nat.reduceLT,Nat.reduceSub,Int.reduceNeg,Int.reduceEq,Int.reduceBEq,Int.reduceBNe,Nat.reduceEqDiff,List.take_zero,List.map_nil]⟩
  · rintro i env h' hi ⟨ui,hui,rfl,rfl⟩
    obtain ⟨x,hx⟩ : ∃ x,M[i]? = some x := ⟨M[i],List.getElem?_eq_getElem hi⟩
    have hd : M.drop i = x :: M.drop (i + 1) := by
      obtain ⟨h1,h2⟩ := List.getElem?_eq_some_iff.1 hx
      rw [List.drop_eq_getElem_cons h1,h2]
    rw [hd,List.flatMap_cons,List.append_assoc] at hui
    have hx2 : (M.map St.num)[i]? = some x.num := by rw [List.getElem?_map,hx]; rfl
    have hsum := sum_take_succ hx2
    have hle := sum_take_le (M.map St.num) (i + 1)
    obtain ⟨t,L,hw,hne, -⟩ := x.head
    obtain ⟨ux,uy,rfl,hux,huy⟩ := hui.app
    have hux' := hux
    rw [hw] at hux'
    obtain ⟨w,ur,rfl,tw,kw, -⟩ := hux'.cons
    have T1 := take_no H w (ur ++ (uy ++ vs)) (t := [125]) (by rw [tw]; exact hne) (left - (((M.map St.num).take i).sum : Nat))
    have R1 := hR x (List.mem_of_getElem? hx) lo q _ _ H (w :: ur) (uy ++ vs) (left - (((M.map St.num).take i).sum : Nat)) hux (noOr_of huy) (by omega) (by omega)
    rw [show left - (((M.map St.num).take i).sum : Nat) - (x.num : Nat) = left - (((M.map St.num).take (i + 1)).sum : Nat) by rw [hsum]; omega] at R1
    have htk : (M.take (i + 1)).map St.row = (M.take i).map St.row ++ [x.row] := by rw [List.take_add_one,hx,List.map_append]; rfl
    have ha := rows8 (M.take i)
    have hal : ((M.take i).map St.row).length ≤ 1000 := by rw [List.length_map,List.length_take]; omega
    obtain ⟨k',A',B',n',d',N',bs',hrow⟩ := x.row_x
    rw [hrow] at R1 htk
    rw [List.append_assoc,List.cons_append]
    rw [List.cons_append] at R1
    rw [htk]
    generalize (M.take i).map St.row = OUT at *
    have hro : (OUT.length + 1 + 512) * 112 ≤ 140737488355328 := by omega
    generalize hX0 : rdB (w :: (ur ++ (uy ++ vs))) (left - (((M.map St.num).take i).sum : Nat)) = X0 at *
    generalize hX1 : rdB (uy ++ vs) (left - (((M.map St.num).take (i + 1)).sum : Nat)) = X1 at *
    simp -implicitDefEqProofs only [parse_reader_block_b0,go_sem,↓reduceIte,reduceCtorEq,Int.reduceLT,Int.reduceLE,Int.reduceToNat,Nat.reduceAdd,Nat.reduceMul,Nat.reduceLeDiff,Nat.reduceLT,Nat.reduceSub,Int.reduceNeg,Int.reduceEq,Int.reduceBEq,Int.reduceBNe,Nat.reduceEqDiff,hlen,g0,s0,tk,tk',l0,q0,T1,R1,ha,hro]
    exact ⟨uy,huy,by rw [hX1]⟩
  · rintro env h' ⟨ui,hui,rfl,rfl⟩
    rw [List.drop_length,List.flatMap_nil,List.nil_append] at hui
    obtain ⟨w,ur,rfl,tw,kw,hui⟩ := hui.cons
    cases hui.nil
    have T1 := take_yes H w vs tw (left - ((M.map St.num).sum : Nat))
    rw [List.take_length,show (M.map St.num).take M.length = M.map St.num from List.take_of_length_le (by rw [List.length_map]; exact Nat.le_refl _),List.cons_append,List.nil_append]
    generalize rdB (w :: vs) (left - ((M.map St.num).sum : Nat)) = X0 at *
    generalize rdB vs (left - ((M.map St.num).sum : Nat)) = X1 at *
    simp -implicitDefEqProofs only [parse_reader_block_b0,go_sem,↓reduceIte,reduceCtorEq,Int.reduceLT,Int.reduceLE,Int.reduceToNat,Nat.reduceAdd,Nat.reduceMul,Nat.reduceLeDiff,Nat.reduceLT,Nat.reduceSub,Int.reduceNeg,Int.reduceEq,Int.reduceBEq,Int.reduceBNe,Nat.reduceEqDiff,hlen,tk,tk',T1]
    exact hP1
end
end Vg.G3
namespace Vg.G3
open Go Lg Vg.Nm
set_option linter.unusedSimpArgs false
set_option linter.unusedVariables false
set_option maxRecDepth 10000
set_option maxHeartbeats 8000000
attribute [local congr] bind_congr1
attribute [local go_sem] parse_reader_blocks_r0 parse_reader_blocks_r1 parse_reader_blocks_r2 parse_reader_blocks_r3 parse_reader_blocks_r4 parse_reader_blocks_r5 parse_reader_blocks_r6 parse_reader_blocks_r7 parse_reader_blocks_f parse_reader_blocks_v

/-- A block's words are read as it. -/
def BkOk (l : Sl) (dp : Int) : Prop := ∀ (lo q n : Nat) (hp : VBlk → VHeap),HH lo q n hp → ∀ (us vs : List Wd) (left : Int),Mt us (blkW l) → (l.num : Int) ≤ left → left ≤ 100 →
  callVL vp lo n_parse_reader_block [.ptr q 0,.int .i64 dp] (hp (rdB (us ++ vs) left)) = some (.tup [.list .s l.rows,.int .i64 0],hp (rdB vs (left - l.num)))
section
variable {lo q n : Nat} {hp : VBlk → VHeap}
/-- One block. -/
theorem rblocks_one (H : HH lo q n hp) {l : Sl} {dp : Int} (hB : BkOk l dp) (us vs : List Wd) (left : Int) (hm : Mt us (blkW l)) (hn : (l.num : Int) ≤ left) (hl : left ≤ 100) :
    callVL vp lo n_parse_reader_blocks [.ptr q 0,.int .i64 dp,.str [],.int .i64 1] (hp (rdB (us ++ vs) left)) = some (.tup [.list .s [[.list .s l.rows]],.int .i64 0],hp (rdB vs (left - l.num))) := by
  have key := call_body (p := vp) (lo := lo) (h := hp (rdB (us ++ vs) left)) (f := n_parse_reader_blocks) (fn := parse_reader_blocks_v) (args := [.ptr q 0,.int .i64 dp,.str [],.int .i64 1]) (P := fun r => r = (.tup [.list .s [[.list .s l.rows]],.int .i64 0],hp (rdB vs (left - l.num)))) rfl (.inl rfl) rfl ?_
  · obtain ⟨r,hr,rfl⟩ := key; exact hr
  have B1 := hB lo q n hp H us vs left hm hn hl
  have tk' := H.take'
  have hlen := H.len
  generalize rdB (us ++ vs) left = X0 at *
  generalize rdB vs (left - l.num) = X1 at *
  generalize l.rows = R at *
  simp -implicitDefEqProofs only [parse_reader_blocks_b0,go_sem,↓reduceIte,reduceCtorEq,Int.reduceLT,Int.reduceLE,Int.reduceToNat,Nat.reduceAdd,Nat.reduceMul,Nat.reduceLeDiff,Nat.reduceLT,Nat.reduceSub,Int.reduceNeg,Int.reduceEq,Int.reduceBEq,Int.reduceBNe,Nat.reduceEqDiff,loopV_eq,↓thenV_norm,↓thenV_exit,↓thenV_ret,hlen,tk',B1]
/-- Two blocks of a choice. -/
theorem rblocks_any (H : HH lo q n hp) {l l2 : Sl} {dp : Int} (hB : BkOk l dp) (hB2 : BkOk l2 dp) (us vs : List Wd) (left : Int) (hm : Mt us (blkW l ++ [[111,114]] ++ blkW l2)) (hv : NoOr vs) (hn : ((l.num + l2.num : Nat) : Int) ≤ left) (hl : left ≤ 100) :
    callVL vp lo n_parse_reader_blocks [.ptr q 0,.int .i64 dp,.str [111,114],.int .i64 4] (hp (rdB (us ++ vs) left)) = some (.tup [.list .s [[.list .s l.rows],[.list .s l2.rows]],.int .i64 0],hp (rdB vs (left - l.num - l2.num))) := by
  have key := call_body (p := vp) (lo := lo) (h := hp (rdB (us ++ vs) left)) (f := n_parse_reader_blocks) (fn := parse_reader_blocks_v) (args := [.ptr q 0,.int .i64 dp,.str [111,114],.int .i64 4]) (P := fun r => r = (.tup [.list .s [[.list .s l.rows],[.list .s l2.rows]],.int .i64 0],hp (rdB vs (left - l.num - l2.num)))) rfl (.inl rfl) rfl ?_
  · obtain ⟨r,hr,rfl⟩ := key; exact hr
  rw [List.append_assoc] at hm
  obtain ⟨u1,u',rfl,m1,hm⟩ := hm.app
  obtain ⟨w,u2,rfl,tw, -,m2⟩ := hm.cons
  obtain ⟨wv,vr,rfl,tv⟩ := hv
  have B1 := hB lo q n hp H u1 (w :: (u2 ++ wv :: vr)) left m1 (by omega) hl
  have T1 := take_yes H w (u2 ++ wv :: vr) tw (left - l.num)
  have B2 := hB2 lo q n hp H u2 (wv :: vr) (left - l.num) m2 (by omega) (by omega)
  have T2 := take_no H wv vr tv (left - l.num - l2.num)
  have tk' := H.take'
  have hlen := H.len
  rw [List.append_assoc,List.cons_append]
  generalize rdB (u1 ++ w :: (u2 ++ wv :: vr)) left = X0 at *
  generalize rdB (w :: (u2 ++ wv :: vr)) (left - l.num) = X1 at *
  generalize rdB (u2 ++ wv :: vr) (left - l.num) = X2 at *
  generalize rdB (wv :: vr) (left - l.num - l2.num) = X3 at *
  generalize l.rows = R at *
  generalize l2.rows = R2 at *
  simp -implicitDefEqProofs only [parse_reader_blocks_b0,go_sem,↓reduceIte,reduceCtorEq,Int.reduceLT,Int.reduceLE,Int.reduceToNat,Nat.reduceAdd,Nat.reduceMul,Nat.reduceLeDiff,Nat.reduceLT,Nat.reduceSub,Int.reduceNeg,Int.reduceEq,Int.reduceBEq,Int.reduceBNe,Nat.reduceEqDiff,loopV_eq,↓thenV_norm,↓thenV_exit,↓thenV_ret,hlen,tk',B1,T1,B2,T2]
/-- Two blocks of a try. -/
theorem rblocks_try (H : HH lo q n hp) {l l2 : Sl} {dp : Int} (hB : BkOk l dp) (hB2 : BkOk l2 dp) (us vs : List Wd) (left : Int) (hm : Mt us (blkW l ++ [[101,108,115,101]] ++ blkW l2)) (hn : ((l.num + l2.num : Nat) : Int) ≤ left) (hl : left ≤ 100) :
    callVL vp lo n_parse_reader_blocks [.ptr q 0,.int .i64 dp,.str [101,108,115,101],.int .i64 2] (hp (rdB (us ++ vs) left)) = some (.tup [.list .s [[.list .s l.rows],[.list .s l2.rows]],.int .i64 0],hp (rdB vs (left - l.num - l2.num))) := by
  have key := call_body (p := vp) (lo := lo) (h := hp (rdB (us ++ vs) left)) (f := n_parse_reader_blocks) (fn := parse_reader_blocks_v) (args := [.ptr q 0,.int .i64 dp,.str [101,108,115,101],.int .i64 2]) (P := fun r => r = (.tup [.list .s [[.list .s l.rows],[.list .s l2.rows]],.int .i64 0],hp (rdB vs (left - l.num - l2.num)))) rfl (.inl rfl) rfl ?_
  · obtain ⟨r,hr,rfl⟩ := key; exact hr
  rw [List.append_assoc] at hm
  obtain ⟨u1,u',rfl,m1,hm⟩ := hm.app
  obtain ⟨w,u2,rfl,tw, -,m2⟩ := hm.cons
  have B1 := hB lo q n hp H u1 (w :: (u2 ++ vs)) left m1 (by omega) hl
  have T1 := take_yes H w (u2 ++ vs) tw (left - l.num)
  have B2 := hB2 lo q n hp H u2 vs (left - l.num) m2 (by omega) (by omega)
  have tk' := H.take'
  have hlen := H.len
  rw [List.append_assoc,List.cons_append]
  generalize rdB (u1 ++ w :: (u2 ++ vs)) left = X0 at *
  generalize rdB (w :: (u2 ++ vs)) (left - l.num) = X1 at *
  generalize rdB (u2 ++ vs) (left - l.num) = X2 at *
  generalize rdB vs (left - l.num - l2.num) = X3 at *
  generalize l.rows = R at *
  generalize l2.rows = R2 at *
  simp -implicitDefEqProofs only [parse_reader_blocks_b0,go_sem,↓reduceIte,reduceCtorEq,Int.reduceLT,Int.reduceLE,Int.reduceToNat,Nat.reduceAdd,Nat.reduceMul,Nat.reduceLeDiff,Nat.reduceLT,Nat.reduceSub,Int.reduceNeg,Int.reduceEq,Int.reduceBEq,Int.reduceBNe,Nat.reduceEqDiff,loopV_eq,↓thenV_norm,↓thenV_exit,↓thenV_ret,hlen,tk',B1,T1,B2]
end
end Vg.G3
namespace Vg.G3
open Go Lg Vg.Nm
set_option linter.unusedSimpArgs false
set_option linter.unusedVariables false
set_option maxRecDepth 10000
set_option maxHeartbeats 8000000
attribute [local congr] bind_congr1
attribute [local go_sem] parse_reader_stmt_r0 parse_reader_stmt_r1 parse_reader_stmt_r2 parse_reader_stmt_r3 parse_reader_stmt_r4 parse_reader_stmt_r5 parse_reader_stmt_r6 parse_reader_stmt_r7 parse_reader_stmt_r8 parse_reader_stmt_r9 parse_reader_stmt_r10 parse_reader_stmt_r11 parse_reader_stmt_r12 parse_reader_stmt_r13 parse_reader_stmt_r14 parse_reader_stmt_r15 parse_reader_stmt_r16 parse_reader_stmt_r17 parse_reader_stmt_r18 parse_reader_stmt_r19 parse_reader_stmt_r20 parse_reader_stmt_r21 parse_reader_stmt_r22 parse_reader_stmt_r23 parse_reader_stmt_r24 parse_reader_stmt_r25 parse_reader_stmt_r26 parse_reader_stmt_r27 parse_reader_stmt_r28 parse_reader_stmt_f parse_reader_stmt_v

section
variable {lo q n : Nat} {hp : VBlk → VHeap}
/-- Reading 'do'. -/
theorem rstmt_do (H : HH lo q n hp) {l : Sl} {dp : Int} (hd0 : 0 ≤ dp) (hd : dp ≤ 100) (hB : BkOk l (dp + 1)) (w1 : Wd) (us vs : List Wd) (left : Int) (h1 : w1.text = [100,111]) (hm : Mt us (blkW l)) (hn : ((l.num + 1 : Nat) : Int) ≤ left) (hl2 : left ≤ 100) :
    callVL vp lo n_parse_reader_stmt [.ptr q 0,.int .i64 dp] (hp (rdB (w1 :: (us ++ vs)) left)) = some (.tup [.agg [.int .i64 6,.str [],.str [],.bool false,.str [],.str [],.int .i64 0,.list .s [[.list .s l.rows]]],.int .i64 0],hp (rdB vs (left - 1 - l.num))) := by
  have key := call_body (p := vp) (lo := lo) (h := hp (rdB (w1 :: (us ++ vs)) left)) (f := n_parse_reader_stmt) (fn := parse_reader_stmt_v) (args := [.ptr q 0,.int .i64 dp]) (P := fun r => r = (.tup [.agg [.int .i64 6,.str [],.str [],.bool false,.str [],.str [],.int .i64 0,.list .s [[.list .s l.rows]]],.int .i64 0],hp (rdB vs (left - 1 - l.num)))) rfl (.inl rfl) rfl ?_
  · obtain ⟨r,hr,rfl⟩ := key; exact hr
  have hB0 := begins_spec w1 (us ++ vs) h1 kw_do kww_do
  have T0 := fun l => take_yes (H.app l) w1 (us ++ vs) (t := [100,111]) h1 (left - 1)
  have B1 := fun x => rblocks_one (H.app x) hB us vs (left - 1) hm (by omega) (by omega)
  have hlo : (lo ≤ q) = True := eq_true H.lo
  have g := H.get
  have st := H.set
  have gq := fun x l => (H.app l).get x
  have sq := fun x y l => (H.app l).set x y
  have tk := H.take
  have tk' := H.take'
  have hl := H.len
  have g0 := H.get0
  have gk := H.getk
  have s0 := H.set0
  have sk := H.setk
  have l0 := H.lo0
  have lk := H.lok
  have wl : IntKind.i64.wrap (left - 1) = left - 1 := wrap_id (by omega) (by omega)
  have wd' : IntKind.i64.wrap (dp + 1) = dp + 1 := wrap_id (by omega) (by omega)
  have hn' : ¬ (left - 1) < 0 := by omega
  unfold rdB at *
  generalize List.map Vg.W.fW (w1 :: (us ++ vs)) = U1 at *
  generalize List.map Vg.W.fW (us ++ vs) = U3 at *
  generalize List.map Vg.W.fW vs = U4 at *
  generalize l.rows = R at *
  simp -implicitDefEqProofs (maxSteps := 1000000) only [go_sem,↓reduceIte,reduceCtorEq,Int.reduceLT,Int.reduceLE,Int.reduceToNat,Nat.reduceAdd,Nat.reduceMul,Nat.reduceLeDiff,Nat.reduceLT,Nat.reduceSub,Int.reduceNeg,Int.reduceEq,Int.reduceBEq,Int.reduceBNe,Nat.reduceEqDiff,hlo,g,st,gq,sq,tk,tk',hl,g0,gk,s0,sk,l0,lk,hB0,wl,wd',hn',T0,B1,List.append_assoc,List.length_append,List.length_cons,List.length_nil,List.cons_append,List.nil_append,Nat.add_assoc]
/-- Reading 'any'. -/
theorem rstmt_any (H : HH lo q n hp) {l l2 : Sl} {dp : Int} (hd0 : 0 ≤ dp) (hd : dp ≤ 100) (hB : BkOk l (dp + 1)) (hB2 : BkOk l2 (dp + 1)) (w1 : Wd) (us vs : List Wd) (left : Int) (h1 : w1.text = [97,110,121]) (hm : Mt us (blkW l ++ [[111,114]] ++ blkW l2)) (hv : NoOr vs) (hn : ((l.num + l2.num + 1 : Nat) : Int) ≤ left) (hl2 : left ≤ 100) :
    callVL vp lo n_parse_reader_stmt [.ptr q 0,.int .i64 dp] (hp (rdB (w1 :: (us ++ vs)) left)) = some (.tup [.agg [.int .i64 8,.str [],.str [],.bool false,.str [],.str [],.int .i64 0,.list .s [[.list .s l.rows],[.list .s l2.rows]]],.int .i64 0],hp (rdB vs (left - 1 - l.num - l2.num))) := by
  have key := call_body (p := vp) (lo := lo) (h := hp (rdB (w1 :: (us ++ vs)) left)) (f := n_parse_reader_stmt) (fn := parse_reader_stmt_v) (args := [.ptr q 0,.int .i64 dp]) (P := fun r => r = (.tup [.agg [.int .i64 8,.str [],.str [],.bool false,.str [],.str [],.int .i64 0,.list .s [[.list .s l.rows],[.list .s l2.rows]]],.int .i64 0],hp (rdB vs (left - 1 - l.num - l2.num)))) rfl (.inl rfl) rfl ?_
  · obtain ⟨r,hr,rfl⟩ := key; exact hr
  have hB0 := begins_spec w1 (us ++ vs) h1 kw_any kww_any
  have T0 := fun l => take_no (H.app l) w1 (us ++ vs) (t := [100,111]) (by rw [h1]; rfl) (left - 1)
  have T1 := fun l => take_yes (H.app l) w1 (us ++ vs) (t := [97,110,121]) h1 (left - 1)
  have B1 := fun x => rblocks_any (H.app x) hB hB2 us vs (left - 1) hm hv (by omega) (by omega)
  have hlo : (lo ≤ q) = True := eq_true H.lo
  have g := H.get
  have st := H.set
  have gq := fun x l => (H.app l).get x
  have sq := fun x y l => (H.app l).set x y
  have tk := H.take
  have tk' := H.take'
  have hl := H.len
  have g0 := H.get0
  have gk := H.getk
  have s0 := H.set0
  have sk := H.setk
  have l0 := H.lo0
  have lk := H.lok
  have wl : IntKind.i64.wrap (left - 1) = left - 1 := wrap_id (by omega) (by omega)
  have wd' : IntKind.i64.wrap (dp + 1) = dp + 1 := wrap_id (by omega) (by omega)
  have hn' : ¬ (left - 1) < 0 := by omega
  unfold rdB at *
  generalize List.map Vg.W.fW (w1 :: (us ++ vs)) = U1 at *
  generalize List.map Vg.W.fW (us ++ vs) = U3 at *
  generalize List.map Vg.W.fW vs = U4 at *
  generalize l.rows = R at *
  generalize l2.rows = R2 at *
  simp -implicitDefEqProofs (maxSteps := 1000000) only [go_sem,↓reduceIte,reduceCtorEq,Int.reduceLT,Int.reduceLE,Int.reduceToNat,Nat.reduceAdd,Nat.reduceMul,Nat.reduceLeDiff,Nat.reduceLT,Nat.reduceSub,Int.reduceNeg,Int.reduceEq,Int.reduceBEq,Int.reduceBNe,Nat.reduceEqDiff,hlo,g,st,gq,sq,tk,tk',hl,g0,gk,s0,sk,l0,lk,hB0,wl,wd',hn',T0,T1,B1,List.append_assoc,List.length_append,List.length_cons,List.length_nil,List.cons_append,List.nil_append,Nat.add_assoc]
/-- Reading 'repeat'. -/
theorem rstmt_rep (H : HH lo q n hp) {l : Sl} {dp : Int} (hd0 : 0 ≤ dp) (hd : dp ≤ 100) (hB : BkOk l (dp + 1)) (w1 : Wd) (w2 : Wd) {m : Nat} (m1 : 1 ≤ m) (m3 : m ≤ 3) (h2 : w2.kind = 2) (h3 : w2.text = dig m) (us vs : List Wd) (left : Int) (h1 : w1.text = [114,101,112,101,97,116]) (hm : Mt us (blkW l)) (hn : ((l.num + 1 : Nat) : Int) ≤ left) (hl2 : left ≤ 100) :
    callVL vp lo n_parse_reader_stmt [.ptr q 0,.int .i64 dp] (hp (rdB (w1 :: w2 :: (us ++ vs)) left)) = some (.tup [.agg [.int .i64 7,.str [],.str [],.bool false,.str [],.str [],.int .i64 (m : Nat),.list .s [[.list .s l.rows]]],.int .i64 0],hp (rdB vs (left - 1 - l.num))) := by
  have key := call_body (p := vp) (lo := lo) (h := hp (rdB (w1 :: w2 :: (us ++ vs)) left)) (f := n_parse_reader_stmt) (fn := parse_reader_stmt_v) (args := [.ptr q 0,.int .i64 dp]) (P := fun r => r = (.tup [.agg [.int .i64 7,.str [],.str [],.bool false,.str [],.str [],.int .i64 (m : Nat),.list .s [[.list .s l.rows]]],.int .i64 0],hp (rdB vs (left - 1 - l.num)))) rfl (.inl rfl) rfl ?_
  · obtain ⟨r,hr,rfl⟩ := key; exact hr
  have hB0 := begins_spec w1 (w2 :: (us ++ vs)) h1 kw_repeat kww_repeat
  have T0 := fun l => take_no (H.app l) w1 (w2 :: (us ++ vs)) (t := [100,111]) (by rw [h1]; rfl) (left - 1)
  have T1 := fun l => take_no (H.app l) w1 (w2 :: (us ++ vs)) (t := [97,110,121]) (by rw [h1]; rfl) (left - 1)
  have T2 := fun l => take_yes (H.app l) w1 (w2 :: (us ++ vs)) (t := [114,101,112,101,97,116]) h1 (left - 1)
  have C1 := fun l => count_spec (H.app l) w2 (us ++ vs) m1 m3 h2 h3 (left - 1)
  have B1 := fun x => rblocks_one (H.app x) hB us vs (left - 1) hm (by omega) (by omega)
  have hlo : (lo ≤ q) = True := eq_true H.lo
  have g := H.get
  have st := H.set
  have gq := fun x l => (H.app l).get x
  have sq := fun x y l => (H.app l).set x y
  have tk := H.take
  have tk' := H.take'
  have hl := H.len
  have g0 := H.get0
  have gk := H.getk
  have s0 := H.set0
  have sk := H.setk
  have l0 := H.lo0
  have lk := H.lok
  have wl : IntKind.i64.wrap (left - 1) = left - 1 := wrap_id (by omega) (by omega)
  have wd' : IntKind.i64.wrap (dp + 1) = dp + 1 := wrap_id (by omega) (by omega)
  have hn' : ¬ (left - 1) < 0 := by omega
  unfold rdB at *
  generalize ((m : Nat) : Int) = M at *
  generalize List.map Vg.W.fW (w1 :: w2 :: (us ++ vs)) = U1 at *
  generalize List.map Vg.W.fW (w2 :: (us ++ vs)) = U2 at *
  generalize List.map Vg.W.fW (us ++ vs) = U3 at *
  generalize List.map Vg.W.fW vs = U4 at *
  generalize l.rows = R at *
  simp -implicitDefEqProofs (maxSteps := 1000000) only [go_sem,↓reduceIte,reduceCtorEq,Int.reduceLT,Int.reduceLE,Int.reduceToNat,Nat.reduceAdd,Nat.reduceMul,Nat.reduceLeDiff,Nat.reduceLT,Nat.reduceSub,Int.reduceNeg,Int.reduceEq,Int.reduceBEq,Int.reduceBNe,Nat.reduceEqDiff,hlo,g,st,gq,sq,tk,tk',hl,g0,gk,s0,sk,l0,lk,hB0,wl,wd',hn',T0,T1,T2,C1,B1,List.append_assoc,List.length_append,List.length_cons,List.length_nil,List.cons_append,List.nil_append,Nat.add_assoc]
/-- Reading 'try'. -/
theorem rstmt_try (H : HH lo q n hp) {l l2 : Sl} {dp : Int} (hd0 : 0 ≤ dp) (hd : dp ≤ 100) (hB : BkOk l (dp + 1)) (hB2 : BkOk l2 (dp + 1)) (w1 : Wd) (us vs : List Wd) (left : Int) (h1 : w1.text = [116,114,121]) (hm : Mt us (blkW l ++ [[101,108,115,101]] ++ blkW l2)) (hn : ((l.num + l2.num + 1 : Nat) : Int) ≤ left) (hl2 : left ≤ 100) :
    callVL vp lo n_parse_reader_stmt [.ptr q 0,.int .i64 dp] (hp (rdB (w1 :: (us ++ vs)) left)) = some (.tup [.agg [.int .i64 9,.str [],.str [],.bool false,.str [],.str [],.int .i64 0,.list .s [[.list .s l.rows],[.list .s l2.rows]]],.int .i64 0],hp (rdB vs (left - 1 - l.num - l2.num))) := by
  have key := call_body (p := vp) (lo := lo) (h := hp (rdB (w1 :: (us ++ vs)) left)) (f := n_parse_reader_stmt) (fn := parse_reader_stmt_v) (args := [.ptr q 0,.int .i64 dp]) (P := fun r => r = (.tup [.agg [.int .i64 9,.str [],.str [],.bool false,.str [],.str [],.int .i64 0,.list .s [[.list .s l.rows],[.list .s l2.rows]]],.int .i64 0],hp (rdB vs (left - 1 - l.num - l2.num)))) rfl (.inl rfl) rfl ?_
  · obtain ⟨r,hr,rfl⟩ := key; exact hr
  have hB0 := begins_spec w1 (us ++ vs) h1 kw_try kww_try
  have T0 := fun l => take_no (H.app l) w1 (us ++ vs) (t := [100,111]) (by rw [h1]; rfl) (left - 1)
  have T1 := fun l => take_no (H.app l) w1 (us ++ vs) (t := [97,110,121]) (by rw [h1]; rfl) (left - 1)
  have T2 := fun l => take_no (H.app l) w1 (us ++ vs) (t := [114,101,112,101,97,116]) (by rw [h1]; rfl) (left - 1)
  have T3 := fun l => take_yes (H.app l) w1 (us ++ vs) (t := [116,114,121]) h1 (left - 1)
  have B1 := fun x => rblocks_try (H.app x) hB hB2 us vs (left - 1) hm (by omega) (by omega)
  have hlo : (lo ≤ q) = True := eq_true H.lo
  have g := H.get
  have st := H.set
  have gq := fun x l => (H.app l).get x
  have sq := fun x y l => (H.app l).set x y
  have tk := H.take
  have tk' := H.take'
  have hl := H.len
  have g0 := H.get0
  have gk := H.getk
  have s0 := H.set0
  have sk := H.setk
  have l0 := H.lo0
  have lk := H.lok
  have wl : IntKind.i64.wrap (left - 1) = left - 1 := wrap_id (by omega) (by omega)
  have wd' : IntKind.i64.wrap (dp + 1) = dp + 1 := wrap_id (by omega) (by omega)
  have hn' : ¬ (left - 1) < 0 := by omega
  unfold rdB at *
  generalize List.map Vg.W.fW (w1 :: (us ++ vs)) = U1 at *
  generalize List.map Vg.W.fW (us ++ vs) = U3 at *
  generalize List.map Vg.W.fW vs = U4 at *
  generalize l.rows = R at *
  generalize l2.rows = R2 at *
  simp -implicitDefEqProofs (maxSteps := 1000000) only [go_sem,↓reduceIte,reduceCtorEq,Int.reduceLT,Int.reduceLE,Int.reduceToNat,Nat.reduceAdd,Nat.reduceMul,Nat.reduceLeDiff,Nat.reduceLT,Nat.reduceSub,Int.reduceNeg,Int.reduceEq,Int.reduceBEq,Int.reduceBNe,Nat.reduceEqDiff,hlo,g,st,gq,sq,tk,tk',hl,g0,gk,s0,sk,l0,lk,hB0,wl,wd',hn',T0,T1,T2,T3,B1,List.append_assoc,List.length_append,List.length_cons,List.length_nil,List.cons_append,List.nil_append,Nat.add_assoc]
end
theorem rd_blk {k nn : Nat} {bs : Bs} {dp : Int} (hd0 : 0 ≤ dp) (hd : dp ≤ 100) (hs : shapeOk k nn bs.len) (hB : ∀ l ∈ bs.list,BkOk l (dp + 1)) : RdOk (.blk k nn bs) dp := by
  intro lo q n hp H us vs left hm hv hn hl
  rw [St.num] at hn ⊢
  rw [St.words] at hm
  rw [St.row,Bs.rows_eq]
  unfold shapeOk at hs
  rcases hs with ⟨rfl,rfl,hl'⟩ | ⟨rfl,h1,h2,hl'⟩ | ⟨rfl,rfl,hl'⟩ | ⟨rfl,rfl,hl'⟩
  · match bs,hl' with
    | .cons l .nil,_ =>
      have e : hdr 6 0 ++ (Bs.cons l .nil).words 6 true = [100,111] :: blkW l := by
        simp only [hdr,Bs.words,blkW,sepW,Sl.words_eq,Nat.reduceEqDiff,if_true,if_false,Bool.false_eq_true,List.nil_append,List.append_nil,List.append_assoc,List.cons_append]
      rw [e] at hm
      obtain ⟨w1,us,rfl,t1, -,hm⟩ := hm.cons
      simp only [Bs.num] at hn ⊢
      have := rstmt_do H hd0 hd (hB l (by simp only [Bs.list,List.mem_cons,true_or])) w1 us vs left t1 hm (by omega) hl
      rw [List.cons_append,this]
      simp only [Bs.list,List.map_cons,List.map_nil]
      rw [show left - 1 - (l.num : Int) = left - ((1 + (l.num + 0) : Nat) : Int) by omega]
      rfl
  · match bs,hl' with
    | .cons l .nil,_ =>
      have e : hdr 7 nn ++ (Bs.cons l .nil).words 7 true = [114,101,112,101,97,116] :: dig nn :: blkW l := by
        simp only [hdr,Bs.words,blkW,sepW,Sl.words_eq,Nat.reduceEqDiff,if_true,if_false,Bool.false_eq_true,List.nil_append,List.append_nil,List.append_assoc,List.cons_append]
      rw [e] at hm
      obtain ⟨w1,us,rfl,t1, -,hm⟩ := hm.cons
      obtain ⟨w2,us,rfl,t2,k2,hm⟩ := hm.cons
      rw [kind_dig h1 (by omega)] at k2
      simp only [Bs.num] at hn ⊢
      have := rstmt_rep H hd0 hd (hB l (by simp only [Bs.list,List.mem_cons,true_or])) w1 w2 h1 (by omega) k2 t2 us vs left t1 hm (by omega) hl
      rw [List.cons_append,List.cons_append,this]
      simp only [Bs.list,List.map_cons,List.map_nil]
      rw [show left - 1 - (l.num : Int) = left - ((1 + (l.num + 0) : Nat) : Int) by omega]
      rfl
  · match bs,hl' with
    | .cons l (.cons l2 .nil),_ =>
      have e : hdr 8 0 ++ (Bs.cons l (.cons l2 .nil)).words 8 true = [97,110,121] :: (blkW l ++ [[111,114]] ++ blkW l2) := by
        simp only [hdr,Bs.words,blkW,sepW,Sl.words_eq,Nat.reduceEqDiff,if_true,if_false,Bool.false_eq_true,List.nil_append,List.append_nil,List.append_assoc,List.cons_append]
      rw [e] at hm
      obtain ⟨w1,us,rfl,t1, -,hm⟩ := hm.cons
      simp only [Bs.num] at hn ⊢
      have := rstmt_any H hd0 hd (hB l (by simp only [Bs.list,List.mem_cons,true_or])) (hB l2 (by simp only [Bs.list,List.mem_cons,true_or,or_true])) w1 us vs left t1 hm hv (by omega) hl
      rw [List.cons_append,this]
      simp only [Bs.list,List.map_cons,List.map_nil]
      rw [show left - 1 - (l.num : Int) - (l2.num : Int) = left - ((1 + (l.num + (l2.num + 0)) : Nat) : Int) by omega]
      rfl
  · match bs,hl' with
    | .cons l (.cons l2 .nil),_ =>
      have e : hdr 9 0 ++ (Bs.cons l (.cons l2 .nil)).words 9 true = [116,114,121] :: (blkW l ++ [[101,108,115,101]] ++ blkW l2) := by
        simp only [hdr,Bs.words,blkW,sepW,Sl.words_eq,Nat.reduceEqDiff,if_true,if_false,Bool.false_eq_true,List.nil_append,List.append_nil,List.append_assoc,List.cons_append]
      rw [e] at hm
      obtain ⟨w1,us,rfl,t1, -,hm⟩ := hm.cons
      simp only [Bs.num] at hn ⊢
      have := rstmt_try H hd0 hd (hB l (by simp only [Bs.list,List.mem_cons,true_or])) (hB l2 (by simp only [Bs.list,List.mem_cons,true_or,or_true])) w1 us vs left t1 hm (by omega) hl
      rw [List.cons_append,this]
      simp only [Bs.list,List.map_cons,List.map_nil]
      rw [show left - 1 - (l.num : Int) - (l2.num : Int) = left - ((1 + (l.num + (l2.num + 0)) : Nat) : Int) by omega]
      rfl
theorem Sl.num_eq : (l : Sl) → l.num = (l.list.map St.num).sum
  | .nil => rfl
  | .cons s l => by simp only [Sl.num,Sl.list,List.map_cons,List.sum_cons,Sl.num_eq l]
theorem rd_ok {a p s : Nat} : ∀ (v : Nat) (x : St),x.ok a p s v → ∀ dp : Int,0 ≤ dp → dp + (v : Nat) ≤ 5 → RdOk x dp
  | v,.leaf l,h,dp,h0,h5 => rd_leaf (by simpa only [St.ok] using h) dp
  | v,.blk k nn bs,h,dp,h0,h5 => by
    simp only [St.ok] at h
    obtain ⟨u,rfl,hs,hb⟩ := h
    refine rd_blk h0 (by omega) hs fun l hl lo q n hp H us vs left hm hn hl' => ?_
    obtain ⟨g1,g2,g3⟩ := Bs.ok_mem bs hb l hl
    rw [Sl.num_eq] at hn ⊢
    rw [Sl.rows_eq]
    exact rblock_spec H (by omega) (by rw [Sl.list_len]; omega) (fun x hx => rd_ok u x (Sl.ok_mem l g3 x hx) (dp + 1) (by omega) (by omega)) us vs left hm hn hl'
end Vg.G3
