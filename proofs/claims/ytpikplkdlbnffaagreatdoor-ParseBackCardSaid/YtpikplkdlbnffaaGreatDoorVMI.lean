import Derived.Test.YtpikplkdlbnffaaGreatDoorVMF
import Derived.Test.YtpikplkdlbnffaaGreatDoorVM8
namespace Vg.G3
open Go Lg Vg.Nm
set_option linter.unusedSimpArgs false
set_option linter.unusedVariables false
set_option maxRecDepth 10000
set_option maxHeartbeats 8000000
attribute [local congr] bind_congr1
attribute [local go_sem] parse_printer_block_r0 parse_printer_block_r1 parse_printer_block_r2 parse_printer_block_r3 parse_printer_block_r4 parse_printer_block_r5 parse_printer_block_r6 parse_printer_block_f parse_printer_block_v

/-- A statement is printed as its words. -/
def PrOk (x : St) : Prop := ∀ (lo q n : Nat) (hp : VBlk → VHeap),HH lo q n hp → ∀ L : List (List UInt8),L.length + x.words.length ≤ 4000 → callVL vp lo n_parse_printer_stmt [.ptr q 0,.agg x.row] (hp (prB L)) = some (.tup [],hp (prB (L ++ x.words)))
theorem Sl.words_eq : (l : Sl) → l.words = l.list.flatMap St.words
  | .nil => rfl
  | .cons s l => by simp only [Sl.words,Sl.list,List.flatMap_cons,Sl.words_eq l]
theorem flat_take' {α β : Type} {F : α → List β} {l : List α} {i : Nat} {x : α} (h : l[i]? = some x) : (l.take (i + 1)).flatMap F = (l.take i).flatMap F ++ F x := by
  rw [List.take_add_one,h,List.flatMap_append]; simp
theorem flat_len_le' {α β : Type} {F : α → List β} (l : List α) (i : Nat) : ((l.take i).flatMap F).length ≤ (l.flatMap F).length := by
  have h : l.flatMap F = (l.take i ++ l.drop i).flatMap F := by rw [List.take_append_drop]
  rw [h,List.flatMap_append,List.length_append]; omega
theorem pr_block {M : List St} (hM : M.length ≤ 1000) (hP : ∀ x ∈ M,PrOk x) {lo q n : Nat} {hp : VBlk → VHeap} (H : HH lo q n hp) (L : List (List UInt8)) (hr : L.length + (M.flatMap St.words).length + 2 ≤ 4000) : callVL vp lo n_parse_printer_block [.ptr q 0,.list .s (M.map St.row)] (hp (prB L)) = some (.tup [],hp (prB (L ++ ([[123]] ++ M.flatMap St.words ++ [[125]])))) := by
  obtain ⟨P,hPP⟩ : ∃ P : VV × VHeap → Prop,P = fun r => r = (.tup [],hp (prB (L ++ ([[123]] ++ M.flatMap St.words ++ [[125]])))) := ⟨_,rfl⟩
  have key := call_body (p := vp) (lo := lo) (h := hp (prB L)) (f := n_parse_printer_block) (fn := parse_printer_block_v) (args := [.ptr q 0,.list .s (M.map St.row)]) (P := P) rfl (.inl rfl) rfl ?_
  · obtain ⟨r,hr,hp⟩ := key; subst hPP; rw [hr,hp]
  have hP1 : P (.tup [],hp (prB (L ++ ([[123]] ++ M.flatMap St.words ++ [[125]])))) := by subst hPP; rfl
  clear hPP
  have hlen := H.len
  have g0 := H.get0
  have s0 := H.set0
  have tk := H.take
  have tk' := H.take'
  have l0 := H.lo0
  have q0 := H.q0
  have hml : (M.map St.row).length = M.length := List.length_map _
  have p1 := put_spec H L [[123]] (by simp only [List.length_cons,List.length_nil]; omega)
  have p2 := put_spec H (L ++ [[123]] ++ M.flatMap St.words) [[125]] (by simp only [List.length_append,List.length_cons,List.length_nil]; omega)
  unfold strR at p1 p2
  simp only [List.map_cons,List.map_nil] at p1 p2
  simp -implicitDefEqProofs only [go_sem,↓reduceIte,reduceCtorEq,Int.reduceLT,Int.reduceLE,Int.reduceToNat,Nat.reduceAdd,Nat.reduceMul,Nat.reduceLeDiff,Nat.reduceLT,Nat.reduceSub,Int.reduceNeg,Int.reduceEq,Int.reduceBEq,Int.reduceBNe,Nat.reduceEqDiff,hlen,hml,p1]
  rw [Sat_bind]
  refine loop_up (I := fun i env h' => h' = hp (prB (L ++ [[123]] ++ (M.take i).flatMap St.words)) ∧ env = [.ptr q 0,.undef,.undef,.undef,.undef,.undef,.undef,.undef,.undef,.list .s (M.map St.row),.int .i64 ((M.length : Nat) : Int),.int .i64 ((i : Nat) : Int),.undef,.undef,.undef,.undef,.undef,.undef,.undef,.undef,.undef,.undef]) M.length ?_ ?_ (Nat.zero_le _) ⟨by simp only [List.take_zero,List.flatMap_nil,List.append_nil],by simp -implicitDefEqProofs only [go_sem,↓reduceIte,reduceCtorEq,Int.reduceLT,Int.reduceLE,Int.reduceToNat,Nat.reduceAdd,Nat.reduceMul,Nat.reduceLeDiff,Nat.reduceLT,Nat.reduceSub,Int.reduceNeg,Int.reduceEq,Int.reduceBEq,Int.reduceBNe,Nat.reduceEqDiff,show ((0 : Nat) : Int) = 0 from rfl]⟩
  · rintro i env h' hi ⟨rfl,rfl⟩
    have hi' : (i : Int) < (M.length : Int) := by omega
    obtain ⟨x,hx⟩ : ∃ x,M[i]? = some x := ⟨M[i],List.getElem?_eq_getElem hi⟩
    have hg := get_map (F := St.row) hx
    have hft := flat_take' (F := St.words) hx
    have hle := flat_len_le' (F := St.words) M (i + 1)
    rw [hft,List.length_append] at hle
    have hc := fun c => hP x (List.mem_of_getElem? hx) lo q _ _ (H.app [c]) (L ++ [[123]] ++ (M.take i).flatMap St.words) (by simp only [List.length_append,List.length_cons,List.length_nil]; omega)
    have wi := wrap_succ (i := i) (by omega)
    rw [hft,← List.append_assoc]
    obtain ⟨k',A',B',n',d',N',bs',hrow⟩ := x.row_x
    rw [hrow] at hg hc
    generalize prB (L ++ [[123]] ++ (M.take i).flatMap St.words) = X at *
    generalize prB (L ++ [[123]] ++ (M.take i).flatMap St.words ++ x.words) = Y at *
    simp -implicitDefEqProofs only [parse_printer_block_b0,go_sem,↓reduceIte,reduceCtorEq,Int.reduceLT,Int.reduceLE,Int.reduceToNat,Nat.reduceAdd,Nat.reduceMul,Nat.reduceLeDiff,Nat.reduceLT,Nat.reduceSub,Int.reduceNeg,Int.reduceEq,Int.reduceBEq,Int.reduceBNe,Nat.reduceEqDiff,hlen,g0,s0,tk,tk',l0,q0,hi',hg,hc,wi]
  · rintro env h' ⟨rfl,rfl⟩
    rw [List.take_length]
    rw [show L ++ ([[123]] ++ M.flatMap St.words ++ [[125]]) = L ++ [[123]] ++ M.flatMap St.words ++ [[125]] by simp only [List.append_assoc]] at hP1
    generalize prB (L ++ [[123]] ++ M.flatMap St.words) = X at *
    generalize prB (L ++ [[123]] ++ M.flatMap St.words ++ [[125]]) = Y at *
    simp -implicitDefEqProofs only [parse_printer_block_b0,go_sem,↓reduceIte,reduceCtorEq,Int.reduceLT,Int.reduceLE,Int.reduceToNat,Nat.reduceAdd,Nat.reduceMul,Nat.reduceLeDiff,Nat.reduceLT,Nat.reduceSub,Int.reduceNeg,Int.reduceEq,Int.reduceBEq,Int.reduceBNe,Nat.reduceEqDiff,hlen,tk,tk',p2,Int.lt_irrefl]
    exact hP1
end Vg.G3
namespace Vg.G3
open Go Lg Vg.Nm
set_option linter.unusedSimpArgs false
set_option linter.unusedVariables false
set_option maxRecDepth 10000
set_option maxHeartbeats 16000000
attribute [local congr] bind_congr1
attribute [local go_sem] parse_printer_stmt_r0 parse_printer_stmt_r1 parse_printer_stmt_r2 parse_printer_stmt_r3 parse_printer_stmt_r4 parse_printer_stmt_r5 parse_printer_stmt_r6 parse_printer_stmt_r7 parse_printer_stmt_r8 parse_printer_stmt_r9 parse_printer_stmt_r10 parse_printer_stmt_r11 parse_printer_stmt_r12 parse_printer_stmt_r13 parse_printer_stmt_r14 parse_printer_stmt_r15 parse_printer_stmt_r16 parse_printer_stmt_r17 parse_printer_stmt_r18 parse_printer_stmt_r19 parse_printer_stmt_r20 parse_printer_stmt_r21 parse_printer_stmt_r22 parse_printer_stmt_r23 parse_printer_stmt_r24 parse_printer_stmt_r25 parse_printer_stmt_r26 parse_printer_stmt_r27 parse_printer_stmt_r28 parse_printer_stmt_r29 parse_printer_stmt_r30 parse_printer_stmt_f parse_printer_stmt_v

/-- The words of a block. -/
def blkW (l : Sl) : List (List UInt8) := [[123]] ++ l.list.flatMap St.words ++ [[125]]
/-- A block's text is printed. -/
def BlOk (l : Sl) : Prop := ∀ (lo q n : Nat) (hp : VBlk → VHeap),HH lo q n hp → ∀ L : List (List UInt8),L.length + (blkW l).length ≤ 4000 → callVL vp lo n_parse_printer_block [.ptr q 0,.list .s l.rows] (hp (prB L)) = some (.tup [],hp (prB (L ++ blkW l)))
theorem pr_blk {k nn : Nat} {bs : Bs} (hs : shapeOk k nn bs.len) (hB : ∀ l ∈ bs.list,BlOk l) : PrOk (.blk k nn bs) := by
  intro lo q n hp H L hr
  rw [St.words] at hr ⊢
  rw [St.row,Bs.rows_eq]
  have key := call_body (p := vp) (lo := lo) (h := hp (prB L)) (f := n_parse_printer_stmt) (fn := parse_printer_stmt_v) (args := [.ptr q 0,.agg [.int .i64 (k : Nat),.str [],.str [],.bool false,.str [],.str [],.int .i64 (nn : Nat),.list .s (bs.list.map fun l => [.list .s l.rows])]]) (P := fun r => r = (.tup [],hp (prB (L ++ (hdr k nn ++ bs.words k true))))) rfl (.inl rfl) rfl ?_
  · obtain ⟨r,hr,rfl⟩ := key; exact hr
  have P1 := fun t L xs => put_spec (H.app t) L xs
  have B1 := fun t l (hl : l ∈ bs.list) => hB l hl lo q _ _ (H.app t)
  have hlen := H.len
  have g0 := H.get0
  have gk := H.getk
  have s0 := H.set0
  have sk := H.setk
  have tk := H.take
  have tkk := H.takek
  have l0 := H.lo0
  have lk := H.lok
  have q0 := H.q0
  have qk := H.qk
  have c6 : ((6 : Nat) : Int) = 6 := rfl
  have c7 : ((7 : Nat) : Int) = 7 := rfl
  have c8 : ((8 : Nat) : Int) = 8 := rfl
  have c9 : ((9 : Nat) : Int) = 9 := rfl
  have c0 : ((0 : Nat) : Int) = 0 := rfl
  have w0 : IntKind.i64.wrap (0 + 1) = 1 := by decide
  have w1 : IntKind.i64.wrap (1 + 1) = 2 := by decide
  unfold shapeOk at hs
  rcases hs with ⟨rfl,rfl,hl⟩ | ⟨rfl,h1,h2,hl⟩ | ⟨rfl,rfl,hl⟩ | ⟨rfl,rfl,hl⟩
  · match bs,hl with
    | .cons l .nil,_ =>
      have e : hdr 6 0 ++ (Bs.cons l .nil).words 6 true = [[100,111]] ++ blkW l := by
        simp only [hdr,Bs.words,blkW,sepW,Sl.words_eq,Nat.reduceEqDiff,if_true,if_false,Bool.false_eq_true,List.nil_append,List.append_nil,List.append_assoc,List.cons_append]
      rw [e] at hr ⊢
      simp only [Bs.list,List.mem_cons,List.not_mem_nil,or_false,forall_eq_or_imp,forall_eq] at B1
      simp only [List.length_append,List.length_cons,List.length_nil] at hr
      have q1 := fun t => P1 t L [[100,111]] (by simp only [List.length_cons,List.length_nil]; omega)
      have q2 := fun t => B1 t (L ++ [[100,111]]) (by simp only [List.length_append,List.length_cons,List.length_nil]; omega)
      rw [show L ++ ([[100,111]] ++ blkW l) = L ++ [[100,111]] ++ blkW l by simp only [List.append_assoc]]
      unfold strR at q1
      simp only [List.map_cons,List.map_nil] at q1
      simp only [Bs.list,List.map_cons,List.map_nil,c6,c0]
      generalize prB L = X at *
      generalize prB (L ++ [[100,111]]) = X1 at *
      generalize prB (L ++ [[100,111]] ++ blkW l) = X2 at *
      generalize l.rows = R at *
      simp -implicitDefEqProofs (maxSteps := 1000000) only [parse_printer_stmt_b0,go_sem,↓reduceIte,reduceCtorEq,Int.reduceLT,Int.reduceLE,Int.reduceToNat,Nat.reduceAdd,Nat.reduceMul,Nat.reduceLeDiff,Nat.reduceLT,Nat.reduceSub,Int.reduceNeg,Int.reduceEq,Int.reduceBEq,Int.reduceBNe,Nat.reduceEqDiff,loopV_eq,↓thenV_norm,↓thenV_exit,↓thenV_ret,hlen,g0,gk,s0,sk,tk,tkk,l0,lk,q0,qk,List.append_assoc,List.length_append,List.length_cons,List.length_nil,List.cons_append,List.nil_append,Nat.add_assoc,Nat.add_lt_add_iff_left,Nat.lt_add_right_iff_pos,Nat.le_add_right,List.take_succ_cons,List.take_zero,q1,q2,w0,w1,Int.lt_irrefl]
  · match bs,hl with
    | .cons l .nil,_ =>
      have hN := number_spec (n := nn) h1 (by omega)
      have e : hdr 7 nn ++ (Bs.cons l .nil).words 7 true = [[114,101,112,101,97,116],dig nn] ++ blkW l := by
        simp only [hdr,Bs.words,blkW,sepW,Sl.words_eq,Nat.reduceEqDiff,if_true,if_false,Bool.false_eq_true,List.nil_append,List.append_nil,List.append_assoc,List.cons_append]
      rw [e] at hr ⊢
      simp only [Bs.list,List.mem_cons,List.not_mem_nil,or_false,forall_eq_or_imp,forall_eq] at B1
      simp only [List.length_append,List.length_cons,List.length_nil] at hr
      have q1 := fun t => P1 t L [[114,101,112,101,97,116],dig nn] (by simp only [List.length_cons,List.length_nil]; omega)
      have q2 := fun t => B1 t (L ++ [[114,101,112,101,97,116],dig nn]) (by simp only [List.length_append,List.length_cons,List.length_nil]; omega)
      rw [show L ++ ([[114,101,112,101,97,116],dig nn] ++ blkW l) = L ++ [[114,101,112,101,97,116],dig nn] ++ blkW l by simp only [List.append_assoc]]
      unfold strR at q1
      simp only [List.map_cons,List.map_nil] at q1
      simp only [Bs.list,List.map_cons,List.map_nil,c7,c0]
      unfold dig at *
      generalize UInt8.ofNat (48 + nn) = U at *
      generalize ((nn : Nat) : Int) = M at *
      generalize prB L = X at *
      generalize prB (L ++ [[114,101,112,101,97,116],[U]]) = X1 at *
      generalize prB (L ++ [[114,101,112,101,97,116],[U]] ++ blkW l) = X2 at *
      generalize l.rows = R at *
      simp -implicitDefEqProofs (maxSteps := 1000000) only [parse_printer_stmt_b0,go_sem,↓reduceIte,reduceCtorEq,Int.reduceLT,Int.reduceLE,Int.reduceToNat,Nat.reduceAdd,Nat.reduceMul,Nat.reduceLeDiff,Nat.reduceLT,Nat.reduceSub,Int.reduceNeg,Int.reduceEq,Int.reduceBEq,Int.reduceBNe,Nat.reduceEqDiff,loopV_eq,↓thenV_norm,↓thenV_exit,↓thenV_ret,hlen,g0,gk,s0,sk,tk,tkk,l0,lk,q0,qk,List.append_assoc,List.length_append,List.length_cons,List.length_nil,List.cons_append,List.nil_append,Nat.add_assoc,Nat.add_lt_add_iff_left,Nat.lt_add_right_iff_pos,Nat.le_add_right,List.take_succ_cons,List.take_zero,q1,q2,w0,w1,Int.lt_irrefl,hN]
  · match bs,hl with
    | .cons l (.cons l2 .nil),_ =>
      have e : hdr 8 0 ++ (Bs.cons l (.cons l2 .nil)).words 8 true = [[97,110,121]] ++ blkW l ++ [[111,114]] ++ blkW l2 := by
        simp only [hdr,Bs.words,blkW,sepW,Sl.words_eq,Nat.reduceEqDiff,if_true,if_false,Bool.false_eq_true,List.nil_append,List.append_nil,List.append_assoc]
      rw [e] at hr ⊢
      simp only [Bs.list,List.mem_cons,List.not_mem_nil,or_false,forall_eq_or_imp,forall_eq] at B1
      simp only [List.length_append,List.length_cons,List.length_nil] at hr
      have q1 := fun t => P1 t L [[97,110,121]] (by simp only [List.length_cons,List.length_nil]; omega)
      have q2 := fun t => (B1 t).1 (L ++ [[97,110,121]]) (by simp only [List.length_append,List.length_cons,List.length_nil]; omega)
      have q3 := fun t => P1 t (L ++ [[97,110,121]] ++ blkW l) [[111,114]] (by simp only [List.length_append,List.length_cons,List.length_nil]; omega)
      have q4 := fun t => (B1 t).2 (L ++ [[97,110,121]] ++ blkW l ++ [[111,114]]) (by simp only [List.length_append,List.length_cons,List.length_nil]; omega)
      rw [show L ++ ([[97,110,121]] ++ blkW l ++ [[111,114]] ++ blkW l2) = L ++ [[97,110,121]] ++ blkW l ++ [[111,114]] ++ blkW l2 by simp only [List.append_assoc]]
      unfold strR at q1 q3
      simp only [List.map_cons,List.map_nil] at q1 q3
      simp only [Bs.list,List.map_cons,List.map_nil,c8,c0]
      generalize prB L = X at *
      generalize prB (L ++ [[97,110,121]]) = X1 at *
      generalize prB (L ++ [[97,110,121]] ++ blkW l) = X2 at *
      generalize prB (L ++ [[97,110,121]] ++ blkW l ++ [[111,114]]) = X3 at *
      generalize prB (L ++ [[97,110,121]] ++ blkW l ++ [[111,114]] ++ blkW l2) = X4 at *
      generalize l.rows = R at *
      generalize l2.rows = R2 at *
      simp -implicitDefEqProofs (maxSteps := 1000000) only [parse_printer_stmt_b0,go_sem,↓reduceIte,reduceCtorEq,Int.reduceLT,Int.reduceLE,Int.reduceToNat,Nat.reduceAdd,Nat.reduceMul,Nat.reduceLeDiff,Nat.reduceLT,Nat.reduceSub,Int.reduceNeg,Int.reduceEq,Int.reduceBEq,Int.reduceBNe,Nat.reduceEqDiff,loopV_eq,↓thenV_norm,↓thenV_exit,↓thenV_ret,hlen,g0,gk,s0,sk,tk,tkk,l0,lk,q0,qk,List.append_assoc,List.length_append,List.length_cons,List.length_nil,List.cons_append,List.nil_append,Nat.add_assoc,Nat.add_lt_add_iff_left,Nat.lt_add_right_iff_pos,Nat.le_add_right,List.take_succ_cons,List.take_zero,q1,q2,q3,q4,w0,w1,Int.lt_irrefl,findV,updV,keyV,skey]
  · match bs,hl with
    | .cons l (.cons l2 .nil),_ =>
      have e : hdr 9 0 ++ (Bs.cons l (.cons l2 .nil)).words 9 true = [[116,114,121]] ++ blkW l ++ [[101,108,115,101]] ++ blkW l2 := by
        simp only [hdr,Bs.words,blkW,sepW,Sl.words_eq,Nat.reduceEqDiff,if_true,if_false,Bool.false_eq_true,List.nil_append,List.append_nil,List.append_assoc]
      rw [e] at hr ⊢
      simp only [Bs.list,List.mem_cons,List.not_mem_nil,or_false,forall_eq_or_imp,forall_eq] at B1
      simp only [List.length_append,List.length_cons,List.length_nil] at hr
      have q1 := fun t => P1 t L [[116,114,121]] (by simp only [List.length_cons,List.length_nil]; omega)
      have q2 := fun t => (B1 t).1 (L ++ [[116,114,121]]) (by simp only [List.length_append,List.length_cons,List.length_nil]; omega)
      have q3 := fun t => P1 t (L ++ [[116,114,121]] ++ blkW l) [[101,108,115,101]] (by simp only [List.length_append,List.length_cons,List.length_nil]; omega)
      have q4 := fun t => (B1 t).2 (L ++ [[116,114,121]] ++ blkW l ++ [[101,108,115,101]]) (by simp only [List.length_append,List.length_cons,List.length_nil]; omega)
      rw [show L ++ ([[116,114,121]] ++ blkW l ++ [[101,108,115,101]] ++ blkW l2) = L ++ [[116,114,121]] ++ blkW l ++ [[101,108,115,101]] ++ blkW l2 by simp only [List.append_assoc]]
      unfold strR at q1 q3
      simp only [List.map_cons,List.map_nil] at q1 q3
      simp only [Bs.list,List.map_cons,List.map_nil,c9,c0]
      generalize prB L = X at *
      generalize prB (L ++ [[116,114,121]]) = X1 at *
      generalize prB (L ++ [[116,114,121]] ++ blkW l) = X2 at *
      generalize prB (L ++ [[116,114,121]] ++ blkW l ++ [[101,108,115,101]]) = X3 at *
      generalize prB (L ++ [[116,114,121]] ++ blkW l ++ [[101,108,115,101]] ++ blkW l2) = X4 at *
      generalize l.rows = R at *
      generalize l2.rows = R2 at *
      simp -implicitDefEqProofs (maxSteps := 1000000) only [parse_printer_stmt_b0,go_sem,↓reduceIte,reduceCtorEq,Int.reduceLT,Int.reduceLE,Int.reduceToNat,Nat.reduceAdd,Nat.reduceMul,Nat.reduceLeDiff,Nat.reduceLT,Nat.reduceSub,Int.reduceNeg,Int.reduceEq,Int.reduceBEq,Int.reduceBNe,Nat.reduceEqDiff,loopV_eq,↓thenV_norm,↓thenV_exit,↓thenV_ret,hlen,g0,gk,s0,sk,tk,tkk,l0,lk,q0,qk,List.append_assoc,List.length_append,List.length_cons,List.length_nil,List.cons_append,List.nil_append,Nat.add_assoc,Nat.add_lt_add_iff_left,Nat.lt_add_right_iff_pos,Nat.le_add_right,List.take_succ_cons,List.take_zero,q1,q2,q3,q4,w0,w1,Int.lt_irrefl,findV,updV,keyV,skey]
theorem pr_ok {a p s : Nat} : ∀ (v : Nat) (x : St),x.ok a p s v → PrOk x
  | v,.leaf l,h => fun lo q n hp H L hr => by
    rw [St.words] at hr ⊢
    rw [St.row]
    exact pr_leaf (by simpa only [St.ok] using h) H L hr
  | v,.blk k nn bs,h => by
    simp only [St.ok] at h
    obtain ⟨u,rfl,hs,hb⟩ := h
    refine pr_blk hs fun l hl lo q n hp H L hr => ?_
    obtain ⟨g1,g2,g3⟩ := Bs.ok_mem bs hb l hl
    rw [Sl.rows_eq]
    unfold blkW at hr ⊢
    exact pr_block (by rw [Sl.list_len]; omega) (fun x hx => pr_ok u x (Sl.ok_mem l g3 x hx)) H L (by simp only [List.length_append,List.length_cons,List.length_nil] at hr; omega)
/-- How many bytes the words take,each with a blank. -/
def tlen (l : List (List UInt8)) : Nat := (l.map fun w => w.length + 1).sum
theorem tlen_app (a b : List (List UInt8)) : tlen (a ++ b) = tlen a + tlen b := by unfold tlen; rw [List.map_append,List.sum_append]
theorem tlen_cons (w : List UInt8) (b : List (List UInt8)) : tlen (w :: b) = w.length + 1 + tlen b := rfl
theorem tlen_nil : tlen [] = 0 := rfl
theorem part_len (i : Nat) : (partN i).length ≤ 5 := by unfold partN; split <;> decide
theorem arm_len (i : Nat) : (armN i).length ≤ 5 := by unfold armN; split <;> decide
theorem slot_len (i : Nat) : (slotN i).length ≤ 5 := by unfold slotN; split <;> decide
theorem leaf_tlen (l : Leaf) : tlen l.words ≤ 40 := by
  cases l with
  | put i j d =>
    have := part_len i
    have := slot_len j
    simp only [Leaf.words]
    split <;> simp only [tlen_app,tlen_cons,tlen_nil,List.length_cons,List.length_nil,rtxt] <;> omega
  | hold i j =>
    have := part_len i
    have := arm_len j
    simp only [Leaf.words,tlen_app,tlen_cons,tlen_nil,List.length_cons,List.length_nil]; omega
  | free j =>
    have := arm_len j
    simp only [Leaf.words,tlen_app,tlen_cons,tlen_nil,List.length_cons,List.length_nil]; omega
  | see i =>
    have := part_len i
    simp only [Leaf.words,tlen_app,tlen_cons,tlen_nil,List.length_cons,List.length_nil]; omega
  | wait n => simp only [Leaf.words,tlen_app,tlen_cons,tlen_nil,List.length_cons,List.length_nil,dig]; omega
theorem hdr_tlen (k n : Nat) : tlen (hdr k n) ≤ 9 := by
  unfold hdr
  split
  · decide
  · split
    · simp only [tlen_cons,tlen_nil,List.length_cons,List.length_nil,dig]; omega
    · split <;> decide
theorem sep_len (k : Nat) : (sepW k).length ≤ 4 := by unfold sepW; split <;> decide
mutual
/-- How many statements,counted once. -/
def St.cnt : St → Nat
  | .leaf _ => 1
  | .blk _ _ bs => 1 + bs.cnt
def Sl.cnt : Sl → Nat
  | .nil => 0
  | .cons s l => s.cnt + l.cnt
def Bs.cnt : Bs → Nat
  | .nil => 0
  | .cons l b => 1 + l.cnt + b.cnt
end
mutual
theorem St.tlen_le : (x : St) → tlen x.words ≤ 40 * x.cnt
  | .leaf l => by rw [St.words,St.cnt]; have := leaf_tlen l; omega
  | .blk k n bs => by
    rw [St.words,St.cnt,tlen_app]
    have := hdr_tlen k n
    have := Bs.tlen_le bs k true
    omega
theorem Sl.tlen_le : (x : Sl) → tlen x.words ≤ 40 * x.cnt
  | .nil => by rw [Sl.words,Sl.cnt]; exact Nat.le_refl _
  | .cons s l => by
    rw [Sl.words,Sl.cnt,tlen_app]
    have := St.tlen_le s
    have := Sl.tlen_le l
    omega
theorem Bs.tlen_le : (x : Bs) → (k : Nat) → (f : Bool) → tlen (x.words k f) ≤ 40 * x.cnt
  | .nil,k,f => by rw [Bs.words,Bs.cnt]; exact Nat.le_refl _
  | .cons l b,k,f => by
    rw [Bs.words,Bs.cnt]
    have h1 := Sl.tlen_le l
    have h2 := Bs.tlen_le b k false
    have h3 := sep_len k
    cases f <;> simp only [tlen_app,tlen_cons,tlen_nil,List.length_cons,List.length_nil,if_true,if_false,Bool.false_eq_true] <;> omega
end
end Vg.G3
namespace Vg.G3
open Go Lg Vg.Nm
set_option linter.unusedSimpArgs false
set_option linter.unusedVariables false
set_option maxRecDepth 10000
set_option maxHeartbeats 16000000
attribute [local congr] bind_congr1
attribute [local go_sem] parse_Print_r0 parse_Print_r1 parse_Print_r2 parse_Print_r3 parse_Print_r4 parse_Print_r5 parse_Print_r6 parse_Print_r7 parse_Print_r8 parse_Print_r9 parse_Print_r10 parse_Print_f parse_Print_v

theorem inter_le : (l : List (List UInt8)) → ([32].intercalate l : List UInt8).length ≤ tlen l
  | [] => Nat.zero_le _
  | [w] => by simp [List.intercalate,List.intersperse,tlen]
  | w :: v :: l => by
    have := inter_le (v :: l)
    unfold tlen at *
    simp only [List.intercalate,List.intersperse,List.flatten_cons,List.length_append,List.map_cons,List.sum_cons,List.length_cons,List.length_nil] at this ⊢
    omega
theorem words_le (l : List (List UInt8)) : l.length ≤ tlen l := by
  induction l with
  | nil => exact Nat.le_refl _
  | cons w l ih => rw [tlen_cons,List.length_cons]; omega
def cMax : Nat → Nat
  | 0 => 1
  | v + 1 => 1 + 2 * (1 + 2 * cMax v)
theorem Sl.cnt_eq : (l : Sl) → l.cnt = (l.list.map St.cnt).sum
  | .nil => rfl
  | .cons s l => by simp only [Sl.cnt,Sl.list,List.map_cons,List.sum_cons,Sl.cnt_eq l]
theorem Bs.cnt_eq : (b : Bs) → b.cnt = (b.list.map fun l => 1 + l.cnt).sum
  | .nil => rfl
  | .cons l b => by simp only [Bs.cnt,Bs.list,List.map_cons,List.sum_cons,Bs.cnt_eq b]
theorem cMax_pos (v : Nat) : 1 ≤ cMax v := by cases v <;> simp only [cMax] <;> omega
theorem cnt_le {a p s : Nat} : ∀ (v : Nat) (x : St),x.ok a p s v → x.cnt ≤ cMax v
  | v,.leaf l,_ => by rw [St.cnt]; exact cMax_pos v
  | v,.blk k n bs,h => by
    simp only [St.ok] at h
    obtain ⟨u,rfl,hs,hb⟩ := h
    have hl : ∀ l ∈ bs.list,1 + l.cnt ≤ 1 + 2 * cMax u := fun l hl => by
      obtain ⟨-,h2,h3⟩ := Bs.ok_mem bs hb l hl
      rw [Sl.cnt_eq]
      have := Nat.le_trans (sum_le_mul (l := l.list.map St.cnt) (m := cMax u) fun x hx => by
        obtain ⟨y,hy,rfl⟩ := List.mem_map.1 hx
        exact cnt_le u y (Sl.ok_mem l h3 y hy)) (Nat.mul_le_mul_right (cMax u) (show (l.list.map St.cnt).length ≤ 2 by rw [List.length_map,Sl.list_len]; exact h2))
      omega
    have h1 : (bs.list.map fun l => 1 + l.cnt).sum ≤ bs.len * (1 + 2 * cMax u) := by
      rw [← Bs.list_len,← List.length_map (f := fun l : Sl => 1 + l.cnt)]
      exact sum_le_mul fun x hx => by obtain ⟨y,hy,rfl⟩ := List.mem_map.1 hx; exact hl y hy
    have h2 : bs.len ≤ 2 := by unfold shapeOk at hs; omega
    have h3 := Nat.mul_le_mul_right (1 + 2 * cMax u) h2
    rw [St.cnt,Bs.cnt_eq]
    simp only [cMax]
    omega
/-- The words of a job. -/
def jobW (l : Sl) : List (List UInt8) := [[106,111,98],[116,97,115,107]] ++ blkW l
theorem body_cnt {a p s : Nat} {l : Sl} (h2 : l.len ≤ 2) (hok : l.ok a p s 2) : l.cnt ≤ 62 := by
  rw [Sl.cnt_eq]
  have := Nat.le_trans (sum_le_mul (l := l.list.map St.cnt) (m := 31) fun x hx => by
    obtain ⟨y,hy,rfl⟩ := List.mem_map.1 hx
    exact cnt_le 2 y (Sl.ok_mem l hok y hy)) (Nat.mul_le_mul_right 31 (show (l.list.map St.cnt).length ≤ 2 by rw [List.length_map,Sl.list_len]; exact h2))
  omega
theorem jobW_le {a p s : Nat} {l : Sl} (h2 : l.len ≤ 2) (hok : l.ok a p s 2) : tlen (jobW l) ≤ 2493 := by
  have := body_cnt h2 hok
  have := Sl.tlen_le l
  unfold jobW blkW
  rw [← Sl.words_eq]
  simp only [tlen_app,tlen_cons,tlen_nil,List.length_cons,List.length_nil]
  omega
/-- Print of a job of the generator. -/
theorem Print_spec {a p s : Nat} {l : Sl} (h2 : l.len ≤ 2) (hok : l.ok a p s 2) (hw : (l.list.map St.wt).sum ≤ 100) (lo : Nat) (h : VHeap) : callVL vp lo n_parse_Print [.agg [.str [116,97,115,107],.list .s l.rows]] h = some (.tup [.str ([32].intercalate (jobW l)),.int .i64 0],h) := by
  refine call_valE (fn := parse_Print_v) rfl rfl rfl rfl rfl ?_ lo h
  have nt : NM [116,97,115,107] := ⟨by decide,by decide,by decide,by decide⟩
  have hC := Check_spec nt (L := l.list) (by rw [Sl.list_len]; omega) (Sl.ok_mem l hok)
  rw [if_pos hw,← Sl.rows_eq] at hC
  have hT := jobW_le h2 hok
  have hI := inter_le (jobW l)
  have hW := words_le (jobW l)
  have H := fun b0 : VBlk => (⟨fun _ => rfl,by decide,by decide,fun _ => rfl,fun _ _ => rfl⟩ : HH 0 1 2 fun x => [b0,x])
  have p1 := fun b0 => put_spec (H b0) [] [[106,111,98],[116,97,115,107]] (by decide)
  have p2 := fun b0 => pr_block (M := l.list) (by rw [Sl.list_len]; omega) (fun x hx => pr_ok 2 x (Sl.ok_mem l hok x hx)) (H b0) ([] ++ [[106,111,98],[116,97,115,107]]) (by
    unfold jobW blkW at hW hT
    simp only [List.length_append,List.length_cons,List.length_nil] at hW ⊢
    omega)
  rw [← Sl.rows_eq] at p2
  have ej : ([] ++ [[106,111,98],[116,97,115,107]]) ++ ([[123]] ++ l.list.flatMap St.words ++ [[125]]) = jobW l := rfl
  rw [ej] at p2
  have hJ := Join_R (jobW l) (by omega)
  have hlen : ¬ (4096 : Int) < ((([32].intercalate (jobW l) : List UInt8).length : Nat) : Int) := by omega
  unfold strR at p1
  simp only [List.map_cons,List.map_nil] at p1
  unfold prB at p1 p2
  have e0 : strR [] = [] := rfl
  rw [e0] at p1
  generalize strR ([] ++ [[106,111,98],[116,97,115,107]]) = S1 at *
  generalize strR (jobW l) = S2 at *
  generalize ([32].intercalate (jobW l) : List UInt8) = J at *
  generalize l.rows = R at *
  simp -implicitDefEqProofs (maxSteps := 1000000) only [go_sem,↓reduceIte,reduceCtorEq,Int.reduceLT,Int.reduceLE,Int.reduceToNat,Nat.reduceAdd,Nat.reduceMul,Nat.reduceLeDiff,Nat.reduceLT,Nat.reduceSub,Int.reduceNeg,Int.reduceEq,Int.reduceBEq,Int.reduceBNe,Nat.reduceEqDiff,hC,p1,p2,hJ,hlen]
end Vg.G3
