import Derived.Test.YtpikplkdlbnffaaGreatDoorVP6
import Derived.Test.YtpikplkdlbnffaaGreatDoorVVgHeap
import Derived.Test.YtpikplkdlbnffaaGreatDoorVR1
import Derived.Test.YtpikplkdlbnffaaGreatDoorVM5
namespace Vg.G3
open Go Lg Vg.Nm
set_option linter.unusedSimpArgs false
set_option linter.unusedVariables false
set_option maxRecDepth 10000
set_option maxHeartbeats 8000000
attribute [local congr] bind_congr1
attribute [local go_sem] strings_Join_f strings_Join_v

/-- Texts,as rows. -/
def strR (l : List (List UInt8)) : List (List VV) := l.map fun x => [.str x]
theorem strR_all (l : List (List UInt8)) : ((strR l).all fun x => decide (x.length = 1)) = true := by
  rw [List.all_eq_true]; intro r hr; obtain ⟨y,_,rfl⟩ := List.mem_map.1 hr; rfl
theorem strs_R : ∀ (l : List (List UInt8)),strsOf ((strR l).flatten.map VV.sc) = some l
  | [] => rfl
  | s :: l => by
    have := strs_R l
    unfold strR at *
    simp only [List.map_cons,List.flatten_cons,List.cons_append,List.nil_append,strsOf,VV.sc,this]
theorem Join_R (l : List (List UInt8)) (h4 : ([32].intercalate l : List UInt8).length + l.length ≤ 140737488355328) (lo : Nat) (h : VHeap) : callVL vp lo n_strings_Join [.list .s (strR l),.str [32]] h = some (.str ([32].intercalate l),h) := by
  refine call_valE (fn := strings_Join_v) rfl rfl rfl rfl rfl ?_ lo h
  have h1 := strs_R l
  have h5 := strR_all l
  simp -implicitDefEqProofs only [go_sem,↓reduceIte,reduceCtorEq,Int.reduceLT,Int.reduceLE,Int.reduceToNat,Nat.reduceAdd,Nat.reduceMul,Nat.reduceLeDiff,Nat.reduceLT,Nat.reduceSub,Int.reduceNeg,Int.reduceEq,Int.reduceBEq,Int.reduceBNe,Nat.reduceEqDiff,ext2,h1,h4,h5]
end Vg.G3
namespace Vg.G3
open Go Lg Vg.Nm
set_option linter.unusedSimpArgs false
set_option linter.unusedVariables false
set_option maxRecDepth 10000
set_option maxHeartbeats 8000000
attribute [local congr] bind_congr1
attribute [local go_sem] nat_Text_r0 nat_Text_r1 nat_Text_r2 nat_Text_r3 nat_Text_r4 nat_Text_r5 nat_Text_r6 nat_Text_r7 nat_Text_r8 nat_Text_r9 nat_Text_r10 nat_Text_r11 nat_Text_r12 nat_Text_r13 nat_Text_r14 nat_Text_r15 nat_Text_r16 nat_Text_r17 nat_Text_r17_d nat_Text_r18 nat_Text_r19 nat_Text_f nat_Text_v

/-- The digit of a number of one digit. -/
theorem digit_text {n : Nat} (h1 : 1 ≤ n) (h9 : n ≤ 9) (lo : Nat) (h : VHeap) : callVL vp lo n_nat_Text [.str [UInt8.ofNat n]] h = some (.str [UInt8.ofNat (48 + n)],h) := by
  refine call_valE (fn := nat_Text_v) rfl rfl rfl rfl rfl ?_ lo h
  have hn : n = 1 ∨ n = 2 ∨ n = 3 ∨ n = 4 ∨ n = 5 ∨ n = 6 ∨ n = 7 ∨ n = 8 ∨ n = 9 := by omega
  have hW := words_spec [UInt8.ofNat n] (by simp) 0 [] (Nat.le_refl _)
  have e1 : wlen [UInt8.ofNat n] = 1 := by rcases hn with rfl | rfl | rfl | rfl | rfl | rfl | rfl | rfl | rfl <;> decide
  have e2 : dcells 1 (valB [UInt8.ofNat n]) = [.int .u32 (n : Nat)] := by
    rcases hn with rfl | rfl | rfl | rfl | rfl | rfl | rfl | rfl | rfl <;> rfl
  rw [e1,e2] at hW
  have wm : IntKind.i64.wrap (1 - 1) = 0 := by decide
  have wz : IntKind.i64.wrap (0 - 1) = -1 := by decide
  have hs : binE .shl (.int .u64 0) (.int .u64 32) = some (.int .u64 0) := rfl
  have ho : binE .or (.int .u64 0) (.int .u64 (n : Nat)) = some (.int .u64 (n : Nat)) := by
    have := or64 (a := 0) (b := n) (by decide) (by omega)
    rw [Nat.zero_or] at this
    exact this
  have c1 : IntKind.u64.wrap ((n : Nat) : Int) = ((n : Nat) : Int) := u64_id (by omega)
  have q1 : IntKind.u64.wrap (((n : Nat) : Int).tdiv 10) = 0 := by
    rcases hn with rfl | rfl | rfl | rfl | rfl | rfl | rfl | rfl | rfl <;> decide
  have q2 : ((n : Nat) : Int).tmod 10 = ((n : Nat) : Int) := by
    rcases hn with rfl | rfl | rfl | rfl | rfl | rfl | rfl | rfl | rfl <;> decide
  have q3 : IntKind.u64.wrap (48 + ((n : Nat) : Int)) = ((48 + n : Nat) : Int) := by
    rcases hn with rfl | rfl | rfl | rfl | rfl | rfl | rfl | rfl | rfl <;> decide
  have z1 : IntKind.u32.wrap 0 = 0 := by decide
  have z2 : IntKind.u8.wrap ((48 + n : Nat) : Int) = ((48 + n : Nat) : Int) := u8_id (by omega)
  have hb : bytesOf [LV.int .u8 ((48 + n : Nat) : Int)] = some [UInt8.ofNat (48 + n)] := by
    rcases hn with rfl | rfl | rfl | rfl | rfl | rfl | rfl | rfl | rfl <;> rfl
  clear hn e1 e2 h1 h9
  generalize UInt8.ofNat (48 + n) = R at *
  generalize UInt8.ofNat n = c at *
  generalize ((48 + n : Nat) : Int) = M at *
  generalize ((n : Nat) : Int) = N at *
  simp -implicitDefEqProofs only [nat_Text_b1,nat_Text_b2,nat_Text_b0,nat_Text_b3,go_sem,↓reduceIte,reduceCtorEq,Int.reduceLT,Int.reduceLE,Int.reduceToNat,Nat.reduceAdd,Nat.reduceMul,Nat.reduceLeDiff,Nat.reduceLT,Nat.reduceSub,Int.reduceNeg,Int.reduceEq,Int.reduceBEq,Int.reduceBNe,Nat.reduceEqDiff,loopV_eq,↓thenV_norm,↓thenV_exit,↓thenV_ret,hW,wm,wz,List.length_nil,List.nil_append,hs,ho,c1,q1,q2,q3,z1,z2,Int.lt_irrefl,isSl,List.flatten_cons,List.flatten_nil,hb]
end Vg.G3
namespace Vg.G3
open Go Lg Vg.Nm
set_option linter.unusedSimpArgs false
set_option linter.unusedVariables false
set_option maxRecDepth 10000
set_option maxHeartbeats 8000000
attribute [local congr] bind_congr1
attribute [local go_sem] parse_printer_put_r0 parse_printer_put_f parse_printer_put_v rat_Text_r0 rat_Text_r1 rat_Text_r2 rat_Text_r3 rat_Text_r4 rat_Text_r5 rat_Text_r6 rat_Text_r7 rat_Text_f rat_Text_v strconv_small_r0 strconv_small_r1 strconv_small_r2 strconv_small_r3 strconv_small_f strconv_small_v strconv_FormatIntx_r0 strconv_FormatIntx_r1 strconv_FormatIntx_r2 strconv_FormatIntx_r3 strconv_FormatIntx_r4 strconv_FormatIntx_r5 strconv_FormatIntx_r6 strconv_FormatIntx_r7 strconv_FormatIntx_r8 strconv_FormatIntx_r9 strconv_FormatIntx_r10 strconv_FormatIntx_r11 strconv_FormatIntx_r12 strconv_FormatIntx_r13 strconv_FormatIntx_r14 strconv_FormatIntx_r15 strconv_FormatIntx_f strconv_FormatIntx_v strconv_FormatInt_r0 strconv_FormatInt_r1 strconv_FormatInt_f strconv_FormatInt_v parse_number_r0 parse_number_r1 parse_number_f parse_number_v parse_printer_stmt_r0 parse_printer_stmt_r1 parse_printer_stmt_r2 parse_printer_stmt_r3 parse_printer_stmt_r4 parse_printer_stmt_r5 parse_printer_stmt_r6 parse_printer_stmt_r7 parse_printer_stmt_r8 parse_printer_stmt_r9 parse_printer_stmt_r10 parse_printer_stmt_r11 parse_printer_stmt_r12 parse_printer_stmt_r13 parse_printer_stmt_r14 parse_printer_stmt_r15 parse_printer_stmt_r16 parse_printer_stmt_r17 parse_printer_stmt_r18 parse_printer_stmt_r19 parse_printer_stmt_r20 parse_printer_stmt_r21 parse_printer_stmt_r22 parse_printer_stmt_r23 parse_printer_stmt_r24 parse_printer_stmt_r25 parse_printer_stmt_r26 parse_printer_stmt_r27 parse_printer_stmt_r28 parse_printer_stmt_r29 parse_printer_stmt_r30 parse_printer_stmt_f parse_printer_stmt_v

/-- Heaps with one block that changes. -/
structure HH (lo q n : Nat) (hp : VBlk → VHeap) : Prop where
  len : ∀ x,(hp x).length = n
  lo : lo ≤ q
  qn : q < n
  get : ∀ x,(hp x)[q]? = some x
  set : ∀ x y,(hp x).set q y = hp y
section
variable {lo q n : Nat} {hp : VBlk → VHeap}
theorem HH.app (H : HH lo q n hp) (l : VHeap) : HH lo q (n + l.length) (fun x => hp x ++ l) := by
  have h1 := H.qn
  refine ⟨fun x => by rw [List.length_append,H.len],H.lo,by omega,fun x => ?_,fun x y => ?_⟩
  · show (hp x ++ l)[q]? = _
    rw [List.getElem?_append_left (by rw [H.len]; exact h1)]; exact H.get x
  · show (hp x ++ l).set q _ = hp y ++ l
    rw [List.set_append_left _ _ (by rw [H.len]; exact h1),H.set]
theorem HH.get0 (H : HH lo q n hp) (x : VBlk) (l : VHeap) : (hp x ++ l)[n]? = l[0]? := by rw [← H.len x]; exact ap_get0
theorem HH.getk (H : HH lo q n hp) (x : VBlk) (l : VHeap) (k : Nat) : (hp x ++ l)[n + k]? = l[k]? := by rw [← H.len x]; exact ap_get
theorem HH.set0 (H : HH lo q n hp) (x : VBlk) (l : VHeap) (b : VBlk) : (hp x ++ l).set n b = hp x ++ l.set 0 b := by rw [← H.len x]; exact ap_set0
theorem HH.setk (H : HH lo q n hp) (x : VBlk) (l : VHeap) (k : Nat) (b : VBlk) : (hp x ++ l).set (n + k) b = hp x ++ l.set k b := by rw [← H.len x]; exact ap_set
theorem HH.take (H : HH lo q n hp) (x : VBlk) (l : VHeap) : (hp x ++ l).take n = hp x := by rw [← H.len x]; exact ap_take
theorem HH.take' (H : HH lo q n hp) (x : VBlk) : (hp x).take n = hp x := by have := H.take x []; rwa [List.append_nil] at this
theorem HH.takek (H : HH lo q n hp) (x : VBlk) (l : VHeap) (k : Nat) : (hp x ++ l).take (n + k) = hp x ++ l.take k := by rw [← H.len x,List.take_length_add_append]
theorem HH.lo0 (H : HH lo q n hp) : (lo ≤ n) = True := eq_true (by have := H.lo; have := H.qn; omega)
theorem HH.lok (H : HH lo q n hp) (k : Nat) : (lo ≤ n + k) = True := eq_true (by have := H.lo; have := H.qn; omega)
theorem HH.q0 (H : HH lo q n hp) : (q < n) = True := eq_true H.qn
theorem HH.qk (H : HH lo q n hp) (k : Nat) : (q < n + k) = True := eq_true (by have := H.qn; omega)
end
def prB (L : List (List UInt8)) : VBlk := .cells true [.list .o (strR L)]
theorem put_spec {lo q n : Nat} {hp : VBlk → VHeap} (H : HH lo q n hp) (L xs : List (List UInt8)) (hr : L.length + xs.length ≤ 5000) : callVL vp lo n_parse_printer_put [.ptr q 0,.list .s (strR xs)] (hp (prB L)) = some (.tup [],hp (prB (L ++ xs))) := by
  have key := call_body (p := vp) (lo := lo) (h := hp (prB L)) (f := n_parse_printer_put) (fn := parse_printer_put_v) (args := [.ptr q 0,.list .s (strR xs)]) (P := fun r => r = (.tup [],hp (prB (L ++ xs)))) rfl (.inl rfl) rfl ?_
  · obtain ⟨r,hr,rfl⟩ := key; exact hr
  have h1 := strR_all L
  have h2 := strR_all xs
  have l1 : (strR L).length = L.length := List.length_map _
  have l2 : (strR xs).length = xs.length := List.length_map _
  have e : strR (L ++ xs) = strR L ++ strR xs := List.map_append ..
  have hro : (L.length + xs.length + 512) * 16 ≤ 140737488355328 := by omega
  have hlo : (lo ≤ q) = True := eq_true H.lo
  have g := H.get
  have st := H.set
  have tk := H.take'
  have hl := H.len
  unfold prB
  rw [e]
  generalize strR L = A at *
  generalize strR xs = B at *
  simp -implicitDefEqProofs only [go_sem,↓reduceIte,reduceCtorEq,Int.reduceLT,Int.reduceLE,Int.reduceToNat,Nat.reduceAdd,Nat.reduceMul,Nat.reduceLeDiff,Nat.reduceLT,Nat.reduceSub,Int.reduceNeg,Int.reduceEq,Int.reduceBEq,Int.reduceBNe,Nat.reduceEqDiff,h1,h2,l1,l2,hro,hlo,g,st,tk,hl]
/-- One over d. -/
def rtxt (d : Nat) : List UInt8 := [49,47,UInt8.ofNat (48 + d)]
theorem ratText_spec {d : Nat} (h4 : 4 ≤ d) (h8 : d ≤ 8) (lo : Nat) (h : VHeap) : callVL vp lo n_rat_Text [.agg [.bool false,.str (wn d),.str (wd d)]] h = some (.str (rtxt d),h) := by
  obtain ⟨gs,w1,w2⟩ := gs_d h4 h8
  have hF := fitS_spec gs false
  have t1 := digit_text (n := 1) (by decide) (by decide)
  have td := digit_text (n := d) (by omega) (by omega)
  have e1 : [UInt8.ofNat 1] = ([1] : List UInt8) := rfl
  have e2 : [UInt8.ofNat (48 + 1)] = ([49] : List UInt8) := rfl
  have hne : (([UInt8.ofNat d] : List UInt8) == [1]) = false := by
    have hd : d = 4 ∨ d = 5 ∨ d = 6 ∨ d = 7 ∨ d = 8 := by omega
    rcases hd with rfl | rfl | rfl | rfl | rfl <;> decide
  have ew : wd d = [UInt8.ofNat d] := by unfold wd; rw [if_neg (by omega)]
  have en : wn d = [1] := by unfold wn; rw [if_neg (by omega)]
  rw [← w1,← w2,ew,en] at hF
  rw [ew,en]
  rw [e1,e2] at t1
  refine call_valE (fn := rat_Text_v) rfl rfl rfl rfl rfl ?_ lo h
  unfold rtxt
  generalize UInt8.ofNat (48 + d) = R at *
  generalize UInt8.ofNat d = c at *
  simp -implicitDefEqProofs only [go_sem,↓reduceIte,reduceCtorEq,Int.reduceLT,Int.reduceLE,Int.reduceToNat,Nat.reduceAdd,Nat.reduceMul,Nat.reduceLeDiff,Nat.reduceLT,Nat.reduceSub,Int.reduceNeg,Int.reduceEq,Int.reduceBEq,Int.reduceBNe,Nat.reduceEqDiff,hF,t1,td,hne,binE_sadd]
theorem number_spec {n : Nat} (h1 : 1 ≤ n) (h9 : n ≤ 3) (lo : Nat) (h : VHeap) : callVL vp lo n_parse_number [.int .i64 (n : Nat)] h = some (.str [UInt8.ofNat (48 + n)],h) := by
  have hn : n = 1 ∨ n = 2 ∨ n = 3 := by omega
  have h0 : ∀ lo h,callVL vp lo n_strconv_small [.int .i64 (n : Nat)] h = some (.str [UInt8.ofNat (48 + n)],h) := fun lo h => by
    refine call_valE (fn := strconv_small_v) rfl rfl rfl rfl rfl ?_ lo h
    have w1 : IntKind.i64.wrap (1 + 1) = 2 := by decide
    have w2 : IntKind.i64.wrap (2 + 1) = 3 := by decide
    have w3 : IntKind.i64.wrap (3 + 1) = 4 := by decide
    have c1 : ((1 : Nat) : Int) = 1 := rfl
    have c2 : ((2 : Nat) : Int) = 2 := rfl
    have c3 : ((3 : Nat) : Int) = 3 := rfl
    have u1 : UInt8.ofNat (48 + 1) = 49 := rfl
    have u2 : UInt8.ofNat (48 + 2) = 50 := rfl
    have u3 : UInt8.ofNat (48 + 3) = 51 := rfl
    rcases hn with rfl | rfl | rfl <;> simp only [c1,c2,c3,u1,u2,u3] <;> simp -implicitDefEqProofs only [go_sem,↓reduceIte,reduceCtorEq,Int.reduceLT,Int.reduceLE,Int.reduceToNat,Nat.reduceAdd,Nat.reduceMul,Nat.reduceLeDiff,Nat.reduceLT,Nat.reduceSub,Int.reduceNeg,Int.reduceEq,Int.reduceBEq,Int.reduceBNe,Nat.reduceEqDiff,w1,w2,w3]
  have g1 : (0 : Int) ≤ ((n : Nat) : Int) := by omega
  have g2 : ((n : Nat) : Int) < 100 := by omega
  clear hn h1 h9
  generalize ((n : Nat) : Int) = N at *
  generalize UInt8.ofNat (48 + n) = R at *
  have h1 : ∀ lo h,callVL vp lo n_strconv_FormatIntx [.int .i64 N,.int .i64 10] h = some (.str [R],h) := fun lo h => by
    refine call_valE (fn := strconv_FormatIntx_v) rfl rfl rfl rfl rfl ?_ lo h
    simp -implicitDefEqProofs only [go_sem,↓reduceIte,reduceCtorEq,Int.reduceLT,Int.reduceLE,Int.reduceToNat,Nat.reduceAdd,Nat.reduceMul,Nat.reduceLeDiff,Nat.reduceLT,Nat.reduceSub,Int.reduceNeg,Int.reduceEq,Int.reduceBEq,Int.reduceBNe,Nat.reduceEqDiff,h0,g1,g2]
  have h2 : ∀ lo h,callVL vp lo n_strconv_FormatInt [.int .i64 N,.int .i64 10] h = some (.str [R],h) := fun lo h => by
    refine call_valE (fn := strconv_FormatInt_v) rfl rfl rfl rfl rfl ?_ lo h
    simp -implicitDefEqProofs only [go_sem,↓reduceIte,reduceCtorEq,Int.reduceLT,Int.reduceLE,Int.reduceToNat,Nat.reduceAdd,Nat.reduceMul,Nat.reduceLeDiff,Nat.reduceLT,Nat.reduceSub,Int.reduceNeg,Int.reduceEq,Int.reduceBEq,Int.reduceBNe,Nat.reduceEqDiff,h1]
  refine call_valE (fn := parse_number_v) rfl rfl rfl rfl rfl ?_ lo h
  simp -implicitDefEqProofs only [go_sem,↓reduceIte,reduceCtorEq,Int.reduceLT,Int.reduceLE,Int.reduceToNat,Nat.reduceAdd,Nat.reduceMul,Nat.reduceLeDiff,Nat.reduceLT,Nat.reduceSub,Int.reduceNeg,Int.reduceEq,Int.reduceBEq,Int.reduceBNe,Nat.reduceEqDiff,h2]
def dig (n : Nat) : List UInt8 := [UInt8.ofNat (48 + n)]
/-- The words of a leaf. -/
def Leaf.words : Leaf → List (List UInt8)
  | .put i j d => [[112,117,116],partN i,[105,110],slotN j] ++ (if d = 0 then [] else [[119,105,116,104,105,110],rtxt d]) ++ [[59]]
  | .hold i j => [[104,111,108,100],partN i,[119,105,116,104],armN j] ++ [[59]]
  | .free j => [[102,114,101,101],armN j] ++ [[59]]
  | .see i => [[115,101,101],partN i] ++ [[59]]
  | .wait n => [[119,97,105,116],dig n] ++ [[59]]
def hdr (k n : Nat) : List (List UInt8) := if k = 6 then [[100,111]] else if k = 7 then [[114,101,112,101,97,116],dig n] else if k = 8 then [[97,110,121]] else [[116,114,121]]
def sepW (k : Nat) : List UInt8 := if k = 8 then [111,114] else [101,108,115,101]
mutual
def St.words : St → List (List UInt8)
  | .leaf l => l.words
  | .blk k n bs => hdr k n ++ bs.words k true
def Sl.words : Sl → List (List UInt8)
  | .nil => []
  | .cons s l => s.words ++ l.words
def Bs.words : Bs → Nat → Bool → List (List UInt8)
  | .nil,_,_ => []
  | .cons l b,k,first => (if first then [] else [sepW k]) ++ ([[123]] ++ l.words ++ [[125]]) ++ b.words k false
end
/-- Printing a leaf. -/
theorem pr_leaf {a p s : Nat} {l : Leaf} (g : l.ok a p s) {lo q n : Nat} {hp : VBlk → VHeap} (H : HH lo q n hp) (L : List (List UInt8)) (hr : L.length + l.words.length ≤ 4000) : callVL vp lo n_parse_printer_stmt [.ptr q 0,.agg l.row] (hp (prB L)) = some (.tup [],hp (prB (L ++ l.words))) := by
  have key := call_body (p := vp) (lo := lo) (h := hp (prB L)) (f := n_parse_printer_stmt) (fn := parse_printer_stmt_v) (args := [.ptr q 0,.agg l.row]) (P := fun r => r = (.tup [],hp (prB (L ++ l.words)))) rfl (.inl rfl) rfl ?_
  · obtain ⟨r,hr,rfl⟩ := key; exact hr
  have P1 := fun t L xs => put_spec (H.app t) L xs
  have hlen := H.len
  have g0 := H.get0
  have tk := H.take
  have w0 : wn 0 = [] := rfl
  have w0' : wd 0 = [] := rfl
  cases l with
  | put i j d =>
    by_cases hd : d = 0
    · subst hd
      simp only [Leaf.words,if_true,List.append_nil] at hr ⊢
      have q1 := fun t => P1 t L [[112,117,116],partN i,[105,110],slotN j] (by simp only [List.length_append,List.length_cons,List.length_nil] at hr ⊢; omega)
      have q2 := fun t => P1 t (L ++ [[112,117,116],partN i,[105,110],slotN j]) [[59]] (by simp only [List.length_append,List.length_cons,List.length_nil] at hr ⊢; omega)
      rw [← List.append_assoc]
      unfold Leaf.row
      simp only [Leaf.kind,Leaf.A,Leaf.B,Leaf.d,Leaf.n,w0,w0']
      unfold strR at q1 q2
      simp only [List.map_cons,List.map_nil] at q1 q2
      generalize partN i = A at *
      generalize slotN j = B at *
      generalize prB L = X at *
      generalize prB (L ++ [[112,117,116],A,[105,110],B]) = Y at *
      generalize prB ((L ++ [[112,117,116],A,[105,110],B]) ++ [[59]]) = Z at *
      simp -implicitDefEqProofs (maxSteps := 1000000) only [parse_printer_stmt_b0,go_sem,↓reduceIte,reduceCtorEq,Int.reduceLT,Int.reduceLE,Int.reduceToNat,Nat.reduceAdd,Nat.reduceMul,Nat.reduceLeDiff,Nat.reduceLT,Nat.reduceSub,Int.reduceNeg,Int.reduceEq,Int.reduceBEq,Int.reduceBNe,Nat.reduceEqDiff,loopV_eq,↓thenV_norm,↓thenV_exit,↓thenV_ret,hlen,g0,tk,q1,q2,nil_nil,Int.lt_irrefl]
    · obtain ⟨gs,w1,w2⟩ := gs_d (d := d) (by simp only [Leaf.ok] at g; omega) (by simp only [Leaf.ok] at g; omega)
      have hT := ratText_spec (d := d) (by simp only [Leaf.ok] at g; omega) (by simp only [Leaf.ok] at g; omega)
      have en : wn d = [1] := by unfold wn; rw [if_neg hd]
      have ed : wd d = [UInt8.ofNat d] := by unfold wd; rw [if_neg hd]
      rw [en,ed] at hT
      have n1 : (([1] : List UInt8) == []) = false := rfl
      simp only [Leaf.words,if_neg hd] at hr ⊢
      have q1 := fun t => P1 t L [[112,117,116],partN i,[105,110],slotN j] (by simp only [List.length_append,List.length_cons,List.length_nil] at hr ⊢; omega)
      have q2 := fun t => P1 t (L ++ [[112,117,116],partN i,[105,110],slotN j]) [[119,105,116,104,105,110],rtxt d] (by simp only [List.length_append,List.length_cons,List.length_nil] at hr ⊢; omega)
      have q3 := fun t => P1 t ((L ++ [[112,117,116],partN i,[105,110],slotN j]) ++ [[119,105,116,104,105,110],rtxt d]) [[59]] (by simp only [List.length_append,List.length_cons,List.length_nil] at hr ⊢; omega)
      rw [← List.append_assoc,← List.append_assoc]
      unfold Leaf.row
      simp only [Leaf.kind,Leaf.A,Leaf.B,Leaf.d,Leaf.n,en,ed]
      unfold strR at q1 q2 q3
      simp only [List.map_cons,List.map_nil] at q1 q2 q3
      generalize partN i = A at *
      generalize slotN j = B at *
      generalize rtxt d = D at *
      generalize UInt8.ofNat d = c at *
      generalize prB L = X at *
      generalize prB (L ++ [[112,117,116],A,[105,110],B]) = Y at *
      generalize prB ((L ++ [[112,117,116],A,[105,110],B]) ++ [[119,105,116,104,105,110],D]) = Y2 at *
      generalize prB (((L ++ [[112,117,116],A,[105,110],B]) ++ [[119,105,116,104,105,110],D]) ++ [[59]]) = Z at *
      simp -implicitDefEqProofs (maxSteps := 1000000) only [parse_printer_stmt_b0,go_sem,↓reduceIte,reduceCtorEq,Int.reduceLT,Int.reduceLE,Int.reduceToNat,Nat.reduceAdd,Nat.reduceMul,Nat.reduceLeDiff,Nat.reduceLT,Nat.reduceSub,Int.reduceNeg,Int.reduceEq,Int.reduceBEq,Int.reduceBNe,Nat.reduceEqDiff,loopV_eq,↓thenV_norm,↓thenV_exit,↓thenV_ret,hlen,g0,tk,q1,q2,q3,hT,n1,Int.lt_irrefl]
  | hold i j =>
    simp only [Leaf.words] at hr ⊢
    have q1 := fun t => P1 t L [[104,111,108,100],partN i,[119,105,116,104],armN j] (by simp only [List.length_append,List.length_cons,List.length_nil] at hr ⊢; omega)
    have q2 := fun t => P1 t (L ++ [[104,111,108,100],partN i,[119,105,116,104],armN j]) [[59]] (by simp only [List.length_append,List.length_cons,List.length_nil] at hr ⊢; omega)
    rw [← List.append_assoc]
    unfold Leaf.row
    simp only [Leaf.kind,Leaf.A,Leaf.B,Leaf.d,Leaf.n,w0,w0']
    unfold strR at q1 q2
    simp only [List.map_cons,List.map_nil] at q1 q2
    generalize partN i = A at *
    generalize armN j = B at *
    generalize prB L = X at *
    generalize prB (L ++ [[104,111,108,100],A,[119,105,116,104],B]) = Y at *
    generalize prB ((L ++ [[104,111,108,100],A,[119,105,116,104],B]) ++ [[59]]) = Z at *
    simp -implicitDefEqProofs (maxSteps := 1000000) only [parse_printer_stmt_b0,go_sem,↓reduceIte,reduceCtorEq,Int.reduceLT,Int.reduceLE,Int.reduceToNat,Nat.reduceAdd,Nat.reduceMul,Nat.reduceLeDiff,Nat.reduceLT,Nat.reduceSub,Int.reduceNeg,Int.reduceEq,Int.reduceBEq,Int.reduceBNe,Nat.reduceEqDiff,loopV_eq,↓thenV_norm,↓thenV_exit,↓thenV_ret,hlen,g0,tk,q1,q2,nil_nil,Int.lt_irrefl]
  | free j =>
    simp only [Leaf.words] at hr ⊢
    have q1 := fun t => P1 t L [[102,114,101,101],armN j] (by simp only [List.length_append,List.length_cons,List.length_nil] at hr ⊢; omega)
    have q2 := fun t => P1 t (L ++ [[102,114,101,101],armN j]) [[59]] (by simp only [List.length_append,List.length_cons,List.length_nil] at hr ⊢; omega)
    rw [← List.append_assoc]
    unfold Leaf.row
    simp only [Leaf.kind,Leaf.A,Leaf.B,Leaf.d,Leaf.n,w0,w0']
    unfold strR at q1 q2
    simp only [List.map_cons,List.map_nil] at q1 q2
    generalize armN j = B at *
    generalize prB L = X at *
    generalize prB (L ++ [[102,114,101,101],B]) = Y at *
    generalize prB ((L ++ [[102,114,101,101],B]) ++ [[59]]) = Z at *
    simp -implicitDefEqProofs (maxSteps := 1000000) only [parse_printer_stmt_b0,go_sem,↓reduceIte,reduceCtorEq,Int.reduceLT,Int.reduceLE,Int.reduceToNat,Nat.reduceAdd,Nat.reduceMul,Nat.reduceLeDiff,Nat.reduceLT,Nat.reduceSub,Int.reduceNeg,Int.reduceEq,Int.reduceBEq,Int.reduceBNe,Nat.reduceEqDiff,loopV_eq,↓thenV_norm,↓thenV_exit,↓thenV_ret,hlen,g0,tk,q1,q2,nil_nil,Int.lt_irrefl]
  | see i =>
    simp only [Leaf.words] at hr ⊢
    have q1 := fun t => P1 t L [[115,101,101],partN i] (by simp only [List.length_append,List.length_cons,List.length_nil] at hr ⊢; omega)
    have q2 := fun t => P1 t (L ++ [[115,101,101],partN i]) [[59]] (by simp only [List.length_append,List.length_cons,List.length_nil] at hr ⊢; omega)
    rw [← List.append_assoc]
    unfold Leaf.row
    simp only [Leaf.kind,Leaf.A,Leaf.B,Leaf.d,Leaf.n,w0,w0']
    unfold strR at q1 q2
    simp only [List.map_cons,List.map_nil] at q1 q2
    generalize partN i = B at *
    generalize prB L = X at *
    generalize prB (L ++ [[115,101,101],B]) = Y at *
    generalize prB ((L ++ [[115,101,101],B]) ++ [[59]]) = Z at *
    simp -implicitDefEqProofs (maxSteps := 1000000) only [parse_printer_stmt_b0,go_sem,↓reduceIte,reduceCtorEq,Int.reduceLT,Int.reduceLE,Int.reduceToNat,Nat.reduceAdd,Nat.reduceMul,Nat.reduceLeDiff,Nat.reduceLT,Nat.reduceSub,Int.reduceNeg,Int.reduceEq,Int.reduceBEq,Int.reduceBNe,Nat.reduceEqDiff,loopV_eq,↓thenV_norm,↓thenV_exit,↓thenV_ret,hlen,g0,tk,q1,q2,nil_nil,Int.lt_irrefl]
  | wait m =>
    have hN := number_spec (n := m) g.1 g.2
    simp only [Leaf.words] at hr ⊢
    have q1 := fun t => P1 t L [[119,97,105,116],dig m] (by simp only [List.length_append,List.length_cons,List.length_nil] at hr ⊢; omega)
    have q2 := fun t => P1 t (L ++ [[119,97,105,116],dig m]) [[59]] (by simp only [List.length_append,List.length_cons,List.length_nil] at hr ⊢; omega)
    rw [← List.append_assoc]
    unfold Leaf.row
    simp only [Leaf.kind,Leaf.A,Leaf.B,Leaf.d,Leaf.n,w0,w0']
    unfold strR at q1 q2
    simp only [List.map_cons,List.map_nil] at q1 q2
    unfold dig at *
    generalize UInt8.ofNat (48 + m) = B at *
    generalize ((m : Nat) : Int) = M at *
    generalize prB L = X at *
    generalize prB (L ++ [[119,97,105,116],[B]]) = Y at *
    generalize prB ((L ++ [[119,97,105,116],[B]]) ++ [[59]]) = Z at *
    simp -implicitDefEqProofs (maxSteps := 1000000) only [parse_printer_stmt_b0,go_sem,↓reduceIte,reduceCtorEq,Int.reduceLT,Int.reduceLE,Int.reduceToNat,Nat.reduceAdd,Nat.reduceMul,Nat.reduceLeDiff,Nat.reduceLT,Nat.reduceSub,Int.reduceNeg,Int.reduceEq,Int.reduceBEq,Int.reduceBNe,Nat.reduceEqDiff,loopV_eq,↓thenV_norm,↓thenV_exit,↓thenV_ret,hlen,g0,tk,q1,q2,nil_nil,Int.lt_irrefl,hN]
end Vg.G3
