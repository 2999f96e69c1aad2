import Derived.Test.YtpikplkdlbnffaaGreatDoorVH8
import Derived.Test.YtpikplkdlbnffaaGreatDoorVMF
import Derived.Test.YtpikplkdlbnffaaGreatDoorVB4
namespace Vg.G3
open Go Lg Go.RowKit
set_option maxRecDepth 100000
set_option maxHeartbeats 8000000

theorem pint1_run : callV vp 60 0 n_strconv_ParseInt [.str [49],.int .i64 10,.int .i64 64] [] = some (.tup [.int .i64 1,.nilif],[]) := by kernel_rfl
theorem pint2_run : callV vp 60 0 n_strconv_ParseInt [.str [50],.int .i64 10,.int .i64 64] [] = some (.tup [.int .i64 2,.nilif],[]) := by kernel_rfl
theorem pint3_run : callV vp 60 0 n_strconv_ParseInt [.str [51],.int .i64 10,.int .i64 64] [] = some (.tup [.int .i64 3,.nilif],[]) := by kernel_rfl
theorem rread4_run : callV vp 60 0 n_rat_Read [.str [49,47,52]] [] = some (.tup [.agg [.bool false,.str [1],.str [4]],.int .i64 0],[]) := by kernel_rfl
theorem rread5_run : callV vp 60 0 n_rat_Read [.str [49,47,53]] [] = some (.tup [.agg [.bool false,.str [1],.str [5]],.int .i64 0],[]) := by kernel_rfl
theorem rread6_run : callV vp 60 0 n_rat_Read [.str [49,47,54]] [] = some (.tup [.agg [.bool false,.str [1],.str [6]],.int .i64 0],[]) := by kernel_rfl
theorem rread7_run : callV vp 60 0 n_rat_Read [.str [49,47,55]] [] = some (.tup [.agg [.bool false,.str [1],.str [7]],.int .i64 0],[]) := by kernel_rfl
theorem rread8_run : callV vp 60 0 n_rat_Read [.str [49,47,56]] [] = some (.tup [.agg [.bool false,.str [1],.str [8]],.int .i64 0],[]) := by kernel_rfl
end Vg.G3
namespace Vg.G3
open Go Lg Vg.Nm
set_option linter.unusedSimpArgs false
set_option linter.unusedVariables false
set_option maxRecDepth 10000
set_option maxHeartbeats 8000000
attribute [local congr] bind_congr1
attribute [local go_sem] parse_reader_take_r0 parse_reader_take_r1 parse_reader_take_r2 parse_reader_take_r3 parse_reader_take_r4 parse_reader_take_f parse_reader_take_v parse_reader_name_r0 parse_reader_name_r1 parse_reader_name_r2 parse_reader_name_r3 parse_reader_name_r4 parse_reader_name_r5 parse_reader_name_f parse_reader_name_v

/-- A word that is read. -/
abbrev Wd := Vg.W.Wd
/-- A reader. -/
def rdB (ws : List Wd) (left : Int) : VBlk := .cells true [.list .s (ws.map Vg.W.fW),.int .i64 left]
section
variable {lo q n : Nat} {hp : VBlk → VHeap}
theorem rows3 (ws : List Wd) : ((ws.map Vg.W.fW).all fun x => decide (x.length = 3)) = true := by
  rw [List.all_eq_true]; intro r hr; obtain ⟨y,_,rfl⟩ := List.mem_map.1 hr; rfl
theorem take_yes (H : HH lo q n hp) (w : Wd) (us : List Wd) {t : List UInt8} (ht : w.text = t) (left : Int) : callVL vp lo n_parse_reader_take [.ptr q 0,.str t] (hp (rdB (w :: us) left)) = some (.bool true,hp (rdB us left)) := by
  have key := call_body (p := vp) (lo := lo) (h := hp (rdB (w :: us) left)) (f := n_parse_reader_take) (fn := parse_reader_take_v) (args := [.ptr q 0,.str t]) (P := fun r => r = (.bool true,hp (rdB us left))) rfl (.inl rfl) rfl ?_
  · obtain ⟨r,hr,rfl⟩ := key; exact hr
  have hlo : (lo ≤ q) = True := eq_true H.lo
  have g := H.get
  have st := H.set
  have tk := H.take'
  have hl := H.len
  have h3 := rows3 us
  have hne : ¬ ((us.length + 1 : Nat) : Int) = 0 := by omega
  have hle : 1 ≤ us.length + 1 := by omega
  unfold rdB
  have hw : Vg.W.fW w = [.int .i64 w.kind,.int .i64 (w.at_ : Nat),.str t] := by rw [← ht]; rfl
  have hll : (us.map Vg.W.fW).length = us.length := List.length_map _
  simp only [List.map_cons,hw]
  generalize us.map Vg.W.fW = U at *
  have hbb : (t == t) = true := beq_self_eq_true t
  simp -implicitDefEqProofs only [go_sem,↓reduceIte,reduceCtorEq,Int.reduceLT,Int.reduceLE,Int.reduceToNat,Nat.reduceAdd,Nat.reduceMul,Nat.reduceLeDiff,Nat.reduceLT,Nat.reduceSub,Int.reduceNeg,Int.reduceEq,Int.reduceBEq,Int.reduceBNe,Nat.reduceEqDiff,hlo,g,st,tk,hl,h3,hll,hne,hle,hbb,List.take_of_length_le,Nat.le_refl]
theorem take_no (H : HH lo q n hp) (w : Wd) (us : List Wd) {t : List UInt8} (ht : (w.text == t) = false) (left : Int) : callVL vp lo n_parse_reader_take [.ptr q 0,.str t] (hp (rdB (w :: us) left)) = some (.bool false,hp (rdB (w :: us) left)) := by
  have key := call_body (p := vp) (lo := lo) (h := hp (rdB (w :: us) left)) (f := n_parse_reader_take) (fn := parse_reader_take_v) (args := [.ptr q 0,.str t]) (P := fun r => r = (.bool false,hp (rdB (w :: us) left))) rfl (.inl rfl) rfl ?_
  · obtain ⟨r,hr,rfl⟩ := key; exact hr
  have hlo : (lo ≤ q) = True := eq_true H.lo
  have g := H.get
  have tk := H.take'
  have hl := H.len
  have hne : ¬ ((us.length + 1 : Nat) : Int) = 0 := by omega
  unfold rdB
  have hw : Vg.W.fW w = [.int .i64 w.kind,.int .i64 (w.at_ : Nat),.str w.text] := rfl
  have hll : (us.map Vg.W.fW).length = us.length := List.length_map _
  simp only [List.map_cons,hw]
  generalize us.map Vg.W.fW = U at *
  simp -implicitDefEqProofs only [go_sem,↓reduceIte,reduceCtorEq,Int.reduceLT,Int.reduceLE,Int.reduceToNat,Nat.reduceAdd,Nat.reduceMul,Nat.reduceLeDiff,Nat.reduceLT,Nat.reduceSub,Int.reduceNeg,Int.reduceEq,Int.reduceBEq,Int.reduceBNe,Nat.reduceEqDiff,hlo,g,tk,hl,hll,hne,ht]
theorem rname_spec (H : HH lo q n hp) (w : Wd) (us : List Wd) (hk : w.kind = 1) (hw : w.text ∉ kws) (left : Int) : callVL vp lo n_parse_reader_name [.ptr q 0] (hp (rdB (w :: us) left)) = some (.tup [.str w.text,.bool true],hp (rdB us left)) := by
  have key := call_body (p := vp) (lo := lo) (h := hp (rdB (w :: us) left)) (f := n_parse_reader_name) (fn := parse_reader_name_v) (args := [.ptr q 0]) (P := fun r => r = (.tup [.str w.text,.bool true],hp (rdB us left))) rfl (.inl rfl) rfl ?_
  · obtain ⟨r,hr,rfl⟩ := key; exact hr
  have hlo : (lo ≤ q) = True := eq_true H.lo
  have g := H.get
  have st := H.set
  have tk := H.take'
  have hl := H.len
  have h3 := rows3 us
  have hK := keyword_spec w.text hw
  have hne : ¬ ((us.length + 1 : Nat) : Int) = 0 := by omega
  have hle : 1 ≤ us.length + 1 := by omega
  unfold rdB
  have hww : Vg.W.fW w = [.int .i64 1,.int .i64 (w.at_ : Nat),.str w.text] := by rw [← hk]; rfl
  have hll : (us.map Vg.W.fW).length = us.length := List.length_map _
  simp only [List.map_cons,hww]
  generalize us.map Vg.W.fW = U at *
  simp -implicitDefEqProofs only [go_sem,↓reduceIte,reduceCtorEq,Int.reduceLT,Int.reduceLE,Int.reduceToNat,Nat.reduceAdd,Nat.reduceMul,Nat.reduceLeDiff,Nat.reduceLT,Nat.reduceSub,Int.reduceNeg,Int.reduceEq,Int.reduceBEq,Int.reduceBNe,Nat.reduceEqDiff,hlo,g,st,tk,hl,h3,hK,hll,hne,hle,List.take_of_length_le,Nat.le_refl]
end
end Vg.G3
namespace Vg.G3
open Go Lg Vg.Nm
set_option linter.unusedSimpArgs false
set_option linter.unusedVariables false
set_option maxRecDepth 10000
set_option maxHeartbeats 8000000
attribute [local congr] bind_congr1
attribute [local go_sem] parse_reader_count_r0 parse_reader_count_r1 parse_reader_count_r2 parse_reader_count_r3 parse_reader_count_r4 parse_reader_count_r4_d parse_reader_count_r5 parse_reader_count_r6 parse_reader_count_r7 parse_reader_count_f parse_reader_count_v parse_reader_within_r0 parse_reader_within_r1 parse_reader_within_r2 parse_reader_within_r3 parse_reader_within_r4 parse_reader_within_r4_d parse_reader_within_r5 parse_reader_within_r6 parse_reader_within_r7 parse_reader_within_f parse_reader_within_v

theorem pint_spec {n : Nat} (h1 : 1 ≤ n) (h3 : n ≤ 3) (lo : Nat) (h : VHeap) : callVL vp lo n_strconv_ParseInt [.str (dig n),.int .i64 10,.int .i64 64] h = some (.tup [.int .i64 (n : Nat),.nilif],h) := by
  have hn : n = 1 ∨ n = 2 ∨ n = 3 := by omega
  rcases hn with rfl | rfl | rfl
  · exact call_eval (fn := strconv_ParseInt_v) rfl rfl rfl rfl pint1_run lo h
  · exact call_eval (fn := strconv_ParseInt_v) rfl rfl rfl rfl pint2_run lo h
  · exact call_eval (fn := strconv_ParseInt_v) rfl rfl rfl rfl pint3_run lo h
theorem rread_spec {d : Nat} (h4 : 4 ≤ d) (h8 : d ≤ 8) (lo : Nat) (h : VHeap) : callVL vp lo n_rat_Read [.str (rtxt d)] h = some (.tup [.agg [.bool false,.str (wn d),.str (wd d)],.int .i64 0],h) := by
  have hd : d = 4 ∨ d = 5 ∨ d = 6 ∨ d = 7 ∨ d = 8 := by omega
  rcases hd with rfl | rfl | rfl | rfl | rfl
  · exact call_eval (fn := rat_Read_v) rfl rfl rfl rfl rread4_run lo h
  · exact call_eval (fn := rat_Read_v) rfl rfl rfl rfl rread5_run lo h
  · exact call_eval (fn := rat_Read_v) rfl rfl rfl rfl rread6_run lo h
  · exact call_eval (fn := rat_Read_v) rfl rfl rfl rfl rread7_run lo h
  · exact call_eval (fn := rat_Read_v) rfl rfl rfl rfl rread8_run lo h
section
variable {lo q n : Nat} {hp : VBlk → VHeap}
theorem count_spec (H : HH lo q n hp) (w : Wd) (us : List Wd) {m : Nat} (h1 : 1 ≤ m) (h3 : m ≤ 3) (hk : w.kind = 2) (ht : w.text = dig m) (left : Int) : callVL vp lo n_parse_reader_count [.ptr q 0] (hp (rdB (w :: us) left)) = some (.tup [.int .i64 (m : Nat),.bool true],hp (rdB us left)) := by
  have key := call_body (p := vp) (lo := lo) (h := hp (rdB (w :: us) left)) (f := n_parse_reader_count) (fn := parse_reader_count_v) (args := [.ptr q 0]) (P := fun r => r = (.tup [.int .i64 (m : Nat),.bool true],hp (rdB us left))) rfl (.inl rfl) rfl ?_
  · obtain ⟨r,hr,rfl⟩ := key; exact hr
  have hlo : (lo ≤ q) = True := eq_true H.lo
  have g := H.get
  have st := H.set
  have tk := H.take'
  have hl := H.len
  have h3' := rows3 us
  have hP := pint_spec h1 h3
  have hN := number_spec h1 h3
  have hne : ¬ ((us.length + 1 : Nat) : Int) = 0 := by omega
  have hle : 1 ≤ us.length + 1 := by omega
  have hw : Vg.W.fW w = [.int .i64 2,.int .i64 (w.at_ : Nat),.str (dig m)] := by rw [← hk,← ht]; rfl
  have hll : (us.map Vg.W.fW).length = us.length := List.length_map _
  have hbb : (dig m == dig m) = true := beq_self_eq_true _
  unfold rdB
  simp only [List.map_cons,hw]
  generalize us.map Vg.W.fW = U at *
  change ∀ lo h,callVL vp lo n_parse_number [.int .i64 (m : Nat)] h = some (.str (dig m),h) at hN
  generalize dig m = D at *
  generalize ((m : Nat) : Int) = M at *
  simp -implicitDefEqProofs only [go_sem,↓reduceIte,reduceCtorEq,Int.reduceLT,Int.reduceLE,Int.reduceToNat,Nat.reduceAdd,Nat.reduceMul,Nat.reduceLeDiff,Nat.reduceLT,Nat.reduceSub,Int.reduceNeg,Int.reduceEq,Int.reduceBEq,Int.reduceBNe,Nat.reduceEqDiff,hlo,g,st,tk,hl,h3',hP,hN,hll,hne,hle,hbb,List.take_of_length_le,Nat.le_refl]
theorem within_spec (H : HH lo q n hp) (w : Wd) (us : List Wd) {d : Nat} (h4 : 4 ≤ d) (h8 : d ≤ 8) (hk : w.kind = 2) (ht : w.text = rtxt d) (left : Int) : callVL vp lo n_parse_reader_within [.ptr q 0] (hp (rdB (w :: us) left)) = some (.tup [.agg [.bool false,.str (wn d),.str (wd d)],.bool true],hp (rdB us left)) := by
  have key := call_body (p := vp) (lo := lo) (h := hp (rdB (w :: us) left)) (f := n_parse_reader_within) (fn := parse_reader_within_v) (args := [.ptr q 0]) (P := fun r => r = (.tup [.agg [.bool false,.str (wn d),.str (wd d)],.bool true],hp (rdB us left))) rfl (.inl rfl) rfl ?_
  · obtain ⟨r,hr,rfl⟩ := key; exact hr
  have hlo : (lo ≤ q) = True := eq_true H.lo
  have g := H.get
  have st := H.set
  have gq := fun x l => (H.app l).get x
  have sq := fun x y l => (H.app l).set x y
  have tk := H.take
  have tk' := H.take'
  have hl := H.len
  have g0 := H.get0
  have gk := H.getk
  have s0 := H.set0
  have sk := H.setk
  have l0 := H.lo0
  have lk := H.lok
  have h3' := rows3 us
  have hP := rread_spec h4 h8
  have hN := ratText_spec h4 h8
  have hne : ¬ ((us.length + 1 : Nat) : Int) = 0 := by omega
  have hle : 1 ≤ us.length + 1 := by omega
  have hw : Vg.W.fW w = [.int .i64 2,.int .i64 (w.at_ : Nat),.str (rtxt d)] := by rw [← hk,← ht]; rfl
  have hll : (us.map Vg.W.fW).length = us.length := List.length_map _
  have hbb : (rtxt d == rtxt d) = true := beq_self_eq_true _
  unfold rdB
  simp only [List.map_cons,hw]
  generalize us.map Vg.W.fW = U at *
  generalize rtxt d = D at *
  generalize wn d = A at *
  generalize wd d = B at *
  simp -implicitDefEqProofs only [go_sem,↓reduceIte,reduceCtorEq,Int.reduceLT,Int.reduceLE,Int.reduceToNat,Nat.reduceAdd,Nat.reduceMul,Nat.reduceLeDiff,Nat.reduceLT,Nat.reduceSub,Int.reduceNeg,Int.reduceEq,Int.reduceBEq,Int.reduceBNe,Nat.reduceEqDiff,hlo,g,st,gq,sq,tk,tk',hl,g0,gk,s0,sk,l0,lk,h3',hP,hN,hll,hne,hle,hbb,List.take_of_length_le,Nat.le_refl,List.append_assoc,List.length_append,List.length_cons,List.length_nil,List.cons_append,List.nil_append,Nat.add_assoc]
end
end Vg.G3
namespace Vg.G3
open Go Lg Vg.Nm
set_option linter.unusedSimpArgs false
set_option linter.unusedVariables false
set_option maxRecDepth 10000
set_option maxHeartbeats 8000000
attribute [local congr] bind_congr1
attribute [local go_sem] parse_reader_plain_r0 parse_reader_plain_r1 parse_reader_plain_r2 parse_reader_plain_r3 parse_reader_plain_r4 parse_reader_plain_r5 parse_reader_plain_r6 parse_reader_plain_r7 parse_reader_plain_r8 parse_reader_plain_r9 parse_reader_plain_r10 parse_reader_plain_r11 parse_reader_plain_r12 parse_reader_plain_r13 parse_reader_plain_r14 parse_reader_plain_r15 parse_reader_plain_r16 parse_reader_plain_r17 parse_reader_plain_r18 parse_reader_plain_r19 parse_reader_plain_r20 parse_reader_plain_r21 parse_reader_plain_r22 parse_reader_plain_r23 parse_reader_plain_r24 parse_reader_plain_f parse_reader_plain_v

theorem arm_kws (j : Nat) : armN j ∉ kws := by unfold armN; split <;> decide
theorem part_kws (j : Nat) : partN j ∉ kws := by unfold partN; split <;> decide
theorem slot_kws (j : Nat) : slotN j ∉ kws := by unfold slotN; split <;> decide
section
variable {lo q n : Nat} {hp : VBlk → VHeap}
/-- Reading 'free ARM',up to its semicolon. -/
theorem rplain_free (H : HH lo q n hp) (w1 w2 : Wd) (us : List Wd) {j : Nat} (h1 : w1.text = [102,114,101,101]) (h2 : w2.kind = 1) (h3 : w2.text = armN j) (left : Int) :
    callVL vp lo n_parse_reader_plain [.ptr q 0] (hp (rdB (w1 :: w2 :: us) left)) = some (.tup [.agg (Leaf.free j).row,.bool true],hp (rdB us left)) := by
  have key := call_body (p := vp) (lo := lo) (h := hp (rdB (w1 :: w2 :: us) left)) (f := n_parse_reader_plain) (fn := parse_reader_plain_v) (args := [.ptr q 0]) (P := fun r => r = (.tup [.agg (Leaf.free j).row,.bool true],hp (rdB us left))) rfl (.inl rfl) rfl ?_
  · obtain ⟨r,hr,rfl⟩ := key; exact hr
  have T1 := fun l => take_no (H.app l) w1 (w2 :: us) (t := [112,117,116]) (by rw [h1]; rfl) left
  have T2 := fun l => take_no (H.app l) w1 (w2 :: us) (t := [104,111,108,100]) (by rw [h1]; rfl) left
  have T3 := fun l => take_yes (H.app l) w1 (w2 :: us) (t := [102,114,101,101]) h1 left
  have N1 := fun l => rname_spec (H.app l) w2 us h2 (by rw [h3]; exact arm_kws j) left
  rw [h3] at N1
  have hlo : (lo ≤ q) = True := eq_true H.lo
  have tk := H.take
  have tk' := H.take'
  have hl := H.len
  have g0 := H.get0
  have gk := H.getk
  have s0 := H.set0
  have sk := H.setk
  have l0 := H.lo0
  have lk := H.lok
  have w0 : wn 0 = [] := rfl
  have w0' : wd 0 = [] := rfl
  unfold Leaf.row
  simp only [Leaf.kind,Leaf.A,Leaf.B,Leaf.d,Leaf.n,w0,w0']
  generalize armN j = A at *
  generalize rdB (w1 :: w2 :: us) left = X1 at *
  generalize rdB (w2 :: us) left = X2 at *
  generalize rdB us left = X3 at *
  simp -implicitDefEqProofs (maxSteps := 1000000) only [go_sem,↓reduceIte,reduceCtorEq,Int.reduceLT,Int.reduceLE,Int.reduceToNat,Nat.reduceAdd,Nat.reduceMul,Nat.reduceLeDiff,Nat.reduceLT,Nat.reduceSub,Int.reduceNeg,Int.reduceEq,Int.reduceBEq,Int.reduceBNe,Nat.reduceEqDiff,hlo,tk,tk',hl,g0,gk,s0,sk,l0,lk,T1,T2,T3,N1,List.append_assoc,List.length_append,List.length_cons,List.length_nil,List.cons_append,List.nil_append,Nat.add_assoc]
/-- Reading 'see PART'. -/
theorem rplain_see (H : HH lo q n hp) (w1 w2 : Wd) (us : List Wd) {j : Nat} (h1 : w1.text = [115,101,101]) (h2 : w2.kind = 1) (h3 : w2.text = partN j) (left : Int) :
    callVL vp lo n_parse_reader_plain [.ptr q 0] (hp (rdB (w1 :: w2 :: us) left)) = some (.tup [.agg (Leaf.see j).row,.bool true],hp (rdB us left)) := by
  have key := call_body (p := vp) (lo := lo) (h := hp (rdB (w1 :: w2 :: us) left)) (f := n_parse_reader_plain) (fn := parse_reader_plain_v) (args := [.ptr q 0]) (P := fun r => r = (.tup [.agg (Leaf.see j).row,.bool true],hp (rdB us left))) rfl (.inl rfl) rfl ?_
  · obtain ⟨r,hr,rfl⟩ := key; exact hr
  have T1 := fun l => take_no (H.app l) w1 (w2 :: us) (t := [112,117,116]) (by rw [h1]; rfl) left
  have T2 := fun l => take_no (H.app l) w1 (w2 :: us) (t := [104,111,108,100]) (by rw [h1]; rfl) left
  have T3 := fun l => take_no (H.app l) w1 (w2 :: us) (t := [102,114,101,101]) (by rw [h1]; rfl) left
  have T4 := fun l => take_yes (H.app l) w1 (w2 :: us) (t := [115,101,101]) h1 left
  have N1 := fun l => rname_spec (H.app l) w2 us h2 (by rw [h3]; exact part_kws j) left
  rw [h3] at N1
  have hlo : (lo ≤ q) = True := eq_true H.lo
  have tk := H.take
  have tk' := H.take'
  have hl := H.len
  have g0 := H.get0
  have gk := H.getk
  have s0 := H.set0
  have sk := H.setk
  have l0 := H.lo0
  have lk := H.lok
  have w0 : wn 0 = [] := rfl
  have w0' : wd 0 = [] := rfl
  unfold Leaf.row
  simp only [Leaf.kind,Leaf.A,Leaf.B,Leaf.d,Leaf.n,w0,w0']
  generalize partN j = A at *
  generalize rdB (w1 :: w2 :: us) left = X0 at *
  generalize rdB (w2 :: us) left = X1 at *
  generalize rdB (us) left = X2 at *
  simp -implicitDefEqProofs (maxSteps := 1000000) only [go_sem,↓reduceIte,reduceCtorEq,Int.reduceLT,Int.reduceLE,Int.reduceToNat,Nat.reduceAdd,Nat.reduceMul,Nat.reduceLeDiff,Nat.reduceLT,Nat.reduceSub,Int.reduceNeg,Int.reduceEq,Int.reduceBEq,Int.reduceBNe,Nat.reduceEqDiff,hlo,tk,tk',hl,g0,gk,s0,sk,l0,lk,T1,T2,T3,T4,N1,List.append_assoc,List.length_append,List.length_cons,List.length_nil,List.cons_append,List.nil_append,Nat.add_assoc]
/-- Reading 'wait N'. -/
theorem rplain_wait (H : HH lo q n hp) (w1 w2 : Wd) (us : List Wd) {m : Nat} (m1 : 1 ≤ m) (m3 : m ≤ 3) (h1 : w1.text = [119,97,105,116]) (h2 : w2.kind = 2) (h3 : w2.text = dig m) (left : Int) :
    callVL vp lo n_parse_reader_plain [.ptr q 0] (hp (rdB (w1 :: w2 :: us) left)) = some (.tup [.agg (Leaf.wait m).row,.bool true],hp (rdB us left)) := by
  have key := call_body (p := vp) (lo := lo) (h := hp (rdB (w1 :: w2 :: us) left)) (f := n_parse_reader_plain) (fn := parse_reader_plain_v) (args := [.ptr q 0]) (P := fun r => r = (.tup [.agg (Leaf.wait m).row,.bool true],hp (rdB us left))) rfl (.inl rfl) rfl ?_
  · obtain ⟨r,hr,rfl⟩ := key; exact hr
  have T1 := fun l => take_no (H.app l) w1 (w2 :: us) (t := [112,117,116]) (by rw [h1]; rfl) left
  have T2 := fun l => take_no (H.app l) w1 (w2 :: us) (t := [104,111,108,100]) (by rw [h1]; rfl) left
  have T3 := fun l => take_no (H.app l) w1 (w2 :: us) (t := [102,114,101,101]) (by rw [h1]; rfl) left
  have T4 := fun l => take_no (H.app l) w1 (w2 :: us) (t := [115,101,101]) (by rw [h1]; rfl) left
  have T5 := fun l => take_yes (H.app l) w1 (w2 :: us) (t := [119,97,105,116]) h1 left
  have N1 := fun l => count_spec (H.app l) w2 us m1 m3 h2 h3 left
  have hlo : (lo ≤ q) = True := eq_true H.lo
  have tk := H.take
  have tk' := H.take'
  have hl := H.len
  have g0 := H.get0
  have gk := H.getk
  have s0 := H.set0
  have sk := H.setk
  have l0 := H.lo0
  have lk := H.lok
  have w0 : wn 0 = [] := rfl
  have w0' : wd 0 = [] := rfl
  unfold Leaf.row
  simp only [Leaf.kind,Leaf.A,Leaf.B,Leaf.d,Leaf.n,w0,w0']
  generalize ((m : Nat) : Int) = M at *
  generalize rdB (w1 :: w2 :: us) left = X0 at *
  generalize rdB (w2 :: us) left = X1 at *
  generalize rdB (us) left = X2 at *
  simp -implicitDefEqProofs (maxSteps := 1000000) only [go_sem,↓reduceIte,reduceCtorEq,Int.reduceLT,Int.reduceLE,Int.reduceToNat,Nat.reduceAdd,Nat.reduceMul,Nat.reduceLeDiff,Nat.reduceLT,Nat.reduceSub,Int.reduceNeg,Int.reduceEq,Int.reduceBEq,Int.reduceBNe,Nat.reduceEqDiff,hlo,tk,tk',hl,g0,gk,s0,sk,l0,lk,T1,T2,T3,T4,T5,N1,List.append_assoc,List.length_append,List.length_cons,List.length_nil,List.cons_append,List.nil_append,Nat.add_assoc]
/-- Reading 'hold PART with ARM'. -/
theorem rplain_hold (H : HH lo q n hp) (w1 w2 w3 w4 : Wd) (us : List Wd) {i j : Nat} (h1 : w1.text = [104,111,108,100]) (h2 : w2.kind = 1) (h3 : w2.text = partN i) (h4 : w3.text = [119,105,116,104]) (h5 : w4.kind = 1) (h6 : w4.text = armN j) (left : Int) :
    callVL vp lo n_parse_reader_plain [.ptr q 0] (hp (rdB (w1 :: w2 :: w3 :: w4 :: us) left)) = some (.tup [.agg (Leaf.hold i j).row,.bool true],hp (rdB us left)) := by
  have key := call_body (p := vp) (lo := lo) (h := hp (rdB (w1 :: w2 :: w3 :: w4 :: us) left)) (f := n_parse_reader_plain) (fn := parse_reader_plain_v) (args := [.ptr q 0]) (P := fun r => r = (.tup [.agg (Leaf.hold i j).row,.bool true],hp (rdB us left))) rfl (.inl rfl) rfl ?_
  · obtain ⟨r,hr,rfl⟩ := key; exact hr
  have T1 := fun l => take_no (H.app l) w1 (w2 :: w3 :: w4 :: us) (t := [112,117,116]) (by rw [h1]; rfl) left
  have T2 := fun l => take_yes (H.app l) w1 (w2 :: w3 :: w4 :: us) (t := [104,111,108,100]) h1 left
  have N1 := fun l => rname_spec (H.app l) w2 (w3 :: w4 :: us) h2 (by rw [h3]; exact part_kws i) left
  rw [h3] at N1
  have T3 := fun l => take_yes (H.app l) w3 (w4 :: us) (t := [119,105,116,104]) h4 left
  have N2 := fun l => rname_spec (H.app l) w4 us h5 (by rw [h6]; exact arm_kws j) left
  rw [h6] at N2
  have hlo : (lo ≤ q) = True := eq_true H.lo
  have tk := H.take
  have tk' := H.take'
  have hl := H.len
  have g0 := H.get0
  have gk := H.getk
  have s0 := H.set0
  have sk := H.setk
  have l0 := H.lo0
  have lk := H.lok
  have w0 : wn 0 = [] := rfl
  have w0' : wd 0 = [] := rfl
  unfold Leaf.row
  simp only [Leaf.kind,Leaf.A,Leaf.B,Leaf.d,Leaf.n,w0,w0']
  generalize partN i = A at *
  generalize armN j = B at *
  generalize rdB (w1 :: w2 :: w3 :: w4 :: us) left = X0 at *
  generalize rdB (w2 :: w3 :: w4 :: us) left = X1 at *
  generalize rdB (w3 :: w4 :: us) left = X2 at *
  generalize rdB (w4 :: us) left = X3 at *
  generalize rdB (us) left = X4 at *
  simp -implicitDefEqProofs (maxSteps := 1000000) only [go_sem,↓reduceIte,reduceCtorEq,Int.reduceLT,Int.reduceLE,Int.reduceToNat,Nat.reduceAdd,Nat.reduceMul,Nat.reduceLeDiff,Nat.reduceLT,Nat.reduceSub,Int.reduceNeg,Int.reduceEq,Int.reduceBEq,Int.reduceBNe,Nat.reduceEqDiff,hlo,tk,tk',hl,g0,gk,s0,sk,l0,lk,T1,T2,T3,N1,N2,List.append_assoc,List.length_append,List.length_cons,List.length_nil,List.cons_append,List.nil_append,Nat.add_assoc,findV,updV,keyV,skey,Nat.add_lt_add_iff_left,Nat.lt_add_right_iff_pos,Nat.le_add_right]
/-- Reading 'put PART in SLOT',ahead of a semicolon. -/
theorem rplain_put (H : HH lo q n hp) (w1 w2 w3 w4 w5 : Wd) (us : List Wd) {i j : Nat} (h1 : w1.text = [112,117,116]) (h2 : w2.kind = 1) (h3 : w2.text = partN i) (h4 : w3.text = [105,110]) (h5 : w4.kind = 1) (h6 : w4.text = slotN j) (h7 : w5.text = [59]) (left : Int) :
    callVL vp lo n_parse_reader_plain [.ptr q 0] (hp (rdB (w1 :: w2 :: w3 :: w4 :: w5 :: us) left)) = some (.tup [.agg (Leaf.put i j 0).row,.bool true],hp (rdB (w5 :: us) left)) := by
  have key := call_body (p := vp) (lo := lo) (h := hp (rdB (w1 :: w2 :: w3 :: w4 :: w5 :: us) left)) (f := n_parse_reader_plain) (fn := parse_reader_plain_v) (args := [.ptr q 0]) (P := fun r => r = (.tup [.agg (Leaf.put i j 0).row,.bool true],hp (rdB (w5 :: us) left))) rfl (.inl rfl) rfl ?_
  · obtain ⟨r,hr,rfl⟩ := key; exact hr
  have T1 := fun l => take_yes (H.app l) w1 (w2 :: w3 :: w4 :: w5 :: us) (t := [112,117,116]) h1 left
  have N1 := fun l => rname_spec (H.app l) w2 (w3 :: w4 :: w5 :: us) h2 (by rw [h3]; exact part_kws i) left
  rw [h3] at N1
  have T2 := fun l => take_yes (H.app l) w3 (w4 :: w5 :: us) (t := [105,110]) h4 left
  have N2 := fun l => rname_spec (H.app l) w4 (w5 :: us) h5 (by rw [h6]; exact slot_kws j) left
  rw [h6] at N2
  have T3 := fun l => take_no (H.app l) w5 us (t := [119,105,116,104,105,110]) (by rw [h7]; rfl) left
  have hlo : (lo ≤ q) = True := eq_true H.lo
  have tk := H.take
  have tk' := H.take'
  have hl := H.len
  have g0 := H.get0
  have gk := H.getk
  have s0 := H.set0
  have sk := H.setk
  have l0 := H.lo0
  have lk := H.lok
  have w0 : wn 0 = [] := rfl
  have w0' : wd 0 = [] := rfl
  unfold Leaf.row
  simp only [Leaf.kind,Leaf.A,Leaf.B,Leaf.d,Leaf.n,w0,w0']
  generalize partN i = A at *
  generalize slotN j = B at *
  generalize rdB (w1 :: w2 :: w3 :: w4 :: w5 :: us) left = X0 at *
  generalize rdB (w2 :: w3 :: w4 :: w5 :: us) left = X1 at *
  generalize rdB (w3 :: w4 :: w5 :: us) left = X2 at *
  generalize rdB (w4 :: w5 :: us) left = X3 at *
  generalize rdB (w5 :: us) left = X4 at *
  simp -implicitDefEqProofs (maxSteps := 1000000) only [go_sem,↓reduceIte,reduceCtorEq,Int.reduceLT,Int.reduceLE,Int.reduceToNat,Nat.reduceAdd,Nat.reduceMul,Nat.reduceLeDiff,Nat.reduceLT,Nat.reduceSub,Int.reduceNeg,Int.reduceEq,Int.reduceBEq,Int.reduceBNe,Nat.reduceEqDiff,hlo,tk,tk',hl,g0,gk,s0,sk,l0,lk,T1,T2,T3,N1,N2,List.append_assoc,List.length_append,List.length_cons,List.length_nil,List.cons_append,List.nil_append,Nat.add_assoc,findV,updV,keyV,skey,Nat.add_lt_add_iff_left,Nat.lt_add_right_iff_pos,Nat.le_add_right]
/-- Reading 'put PART in SLOT within 1/D'. -/
theorem rplain_putw (H : HH lo q n hp) (w1 w2 w3 w4 w5 w6 : Wd) (us : List Wd) {i j d : Nat} (d4 : 4 ≤ d) (d8 : d ≤ 8) (h1 : w1.text = [112,117,116]) (h2 : w2.kind = 1) (h3 : w2.text = partN i) (h4 : w3.text = [105,110]) (h5 : w4.kind = 1) (h6 : w4.text = slotN j) (h7 : w5.text = [119,105,116,104,105,110]) (h8 : w6.kind = 2) (h9 : w6.text = rtxt d) (left : Int) :
    callVL vp lo n_parse_reader_plain [.ptr q 0] (hp (rdB (w1 :: w2 :: w3 :: w4 :: w5 :: w6 :: us) left)) = some (.tup [.agg (Leaf.put i j d).row,.bool true],hp (rdB (us) left)) := by
  have key := call_body (p := vp) (lo := lo) (h := hp (rdB (w1 :: w2 :: w3 :: w4 :: w5 :: w6 :: us) left)) (f := n_parse_reader_plain) (fn := parse_reader_plain_v) (args := [.ptr q 0]) (P := fun r => r = (.tup [.agg (Leaf.put i j d).row,.bool true],hp (rdB (us) left))) rfl (.inl rfl) rfl ?_
  · obtain ⟨r,hr,rfl⟩ := key; exact hr
  have T1 := fun l => take_yes (H.app l) w1 (w2 :: w3 :: w4 :: w5 :: w6 :: us) (t := [112,117,116]) h1 left
  have N1 := fun l => rname_spec (H.app l) w2 (w3 :: w4 :: w5 :: w6 :: us) h2 (by rw [h3]; exact part_kws i) left
  rw [h3] at N1
  have T2 := fun l => take_yes (H.app l) w3 (w4 :: w5 :: w6 :: us) (t := [105,110]) h4 left
  have N2 := fun l => rname_spec (H.app l) w4 (w5 :: w6 :: us) h5 (by rw [h6]; exact slot_kws j) left
  rw [h6] at N2
  have T3 := fun l => take_yes (H.app l) w5 (w6 :: us) (t := [119,105,116,104,105,110]) h7 left
  have N3 := fun l => within_spec (H.app l) w6 us d4 d8 h8 h9 left
  have hlo : (lo ≤ q) = True := eq_true H.lo
  have tk := H.take
  have tk' := H.take'
  have hl := H.len
  have g0 := H.get0
  have gk := H.getk
  have s0 := H.set0
  have sk := H.setk
  have l0 := H.lo0
  have lk := H.lok
  have w0 : wn 0 = [] := rfl
  have w0' : wd 0 = [] := rfl
  unfold Leaf.row
  simp only [Leaf.kind,Leaf.A,Leaf.B,Leaf.d,Leaf.n,w0,w0']
  generalize partN i = A at *
  generalize slotN j = B at *
  generalize wn d = D at *
  generalize Vg.G3.wd d = D' at *
  generalize rdB (w1 :: w2 :: w3 :: w4 :: w5 :: w6 :: us) left = X0 at *
  generalize rdB (w2 :: w3 :: w4 :: w5 :: w6 :: us) left = X1 at *
  generalize rdB (w3 :: w4 :: w5 :: w6 :: us) left = X2 at *
  generalize rdB (w4 :: w5 :: w6 :: us) left = X3 at *
  generalize rdB (w5 :: w6 :: us) left = X4 at *
  generalize rdB (w6 :: us) left = X5 at *
  generalize rdB (us) left = X6 at *
  simp -implicitDefEqProofs (maxSteps := 1000000) only [go_sem,↓reduceIte,reduceCtorEq,Int.reduceLT,Int.reduceLE,Int.reduceToNat,Nat.reduceAdd,Nat.reduceMul,Nat.reduceLeDiff,Nat.reduceLT,Nat.reduceSub,Int.reduceNeg,Int.reduceEq,Int.reduceBEq,Int.reduceBNe,Nat.reduceEqDiff,hlo,tk,tk',hl,g0,gk,s0,sk,l0,lk,T1,T2,T3,N1,N2,N3,List.append_assoc,List.length_append,List.length_cons,List.length_nil,List.cons_append,List.nil_append,Nat.add_assoc,findV,updV,keyV,skey,Nat.add_lt_add_iff_left,Nat.lt_add_right_iff_pos,Nat.le_add_right]
end
end Vg.G3
