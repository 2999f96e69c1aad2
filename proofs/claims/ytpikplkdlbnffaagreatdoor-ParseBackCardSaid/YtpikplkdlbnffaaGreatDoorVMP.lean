import Derived.Test.YtpikplkdlbnffaaGreatDoorVH8
import Derived.Test.YtpikplkdlbnffaaGreatDoorVMM
namespace Vg.G3
open Go Lg Go.RowKit
set_option maxRecDepth 100000
set_option maxHeartbeats 8000000

theorem kw_put (lo : Nat) (h : VHeap) : callVL vp lo n_parse_keyword [.str [112,117,116]] h = some (.bool true,h) :=
  call_eval (K := 40) (h1 := []) (fn := parse_keyword_v) rfl rfl rfl rfl (by kernel_rfl) lo h
theorem kww_put (lo : Nat) (h : VHeap) : callVL vp lo n_parse_keywordWithin [.str [112,117,116]] h = some (.bool false,h) :=
  call_eval (K := 40) (h1 := []) (fn := parse_keywordWithin_v) rfl rfl rfl rfl (by kernel_rfl) lo h
theorem kw_hold (lo : Nat) (h : VHeap) : callVL vp lo n_parse_keyword [.str [104,111,108,100]] h = some (.bool true,h) :=
  call_eval (K := 40) (h1 := []) (fn := parse_keyword_v) rfl rfl rfl rfl (by kernel_rfl) lo h
theorem kww_hold (lo : Nat) (h : VHeap) : callVL vp lo n_parse_keywordWithin [.str [104,111,108,100]] h = some (.bool false,h) :=
  call_eval (K := 40) (h1 := []) (fn := parse_keywordWithin_v) rfl rfl rfl rfl (by kernel_rfl) lo h
theorem kw_free (lo : Nat) (h : VHeap) : callVL vp lo n_parse_keyword [.str [102,114,101,101]] h = some (.bool true,h) :=
  call_eval (K := 40) (h1 := []) (fn := parse_keyword_v) rfl rfl rfl rfl (by kernel_rfl) lo h
theorem kww_free (lo : Nat) (h : VHeap) : callVL vp lo n_parse_keywordWithin [.str [102,114,101,101]] h = some (.bool false,h) :=
  call_eval (K := 40) (h1 := []) (fn := parse_keywordWithin_v) rfl rfl rfl rfl (by kernel_rfl) lo h
theorem kw_see (lo : Nat) (h : VHeap) : callVL vp lo n_parse_keyword [.str [115,101,101]] h = some (.bool true,h) :=
  call_eval (K := 40) (h1 := []) (fn := parse_keyword_v) rfl rfl rfl rfl (by kernel_rfl) lo h
theorem kww_see (lo : Nat) (h : VHeap) : callVL vp lo n_parse_keywordWithin [.str [115,101,101]] h = some (.bool false,h) :=
  call_eval (K := 40) (h1 := []) (fn := parse_keywordWithin_v) rfl rfl rfl rfl (by kernel_rfl) lo h
theorem kw_wait (lo : Nat) (h : VHeap) : callVL vp lo n_parse_keyword [.str [119,97,105,116]] h = some (.bool true,h) :=
  call_eval (K := 40) (h1 := []) (fn := parse_keyword_v) rfl rfl rfl rfl (by kernel_rfl) lo h
theorem kww_wait (lo : Nat) (h : VHeap) : callVL vp lo n_parse_keywordWithin [.str [119,97,105,116]] h = some (.bool false,h) :=
  call_eval (K := 40) (h1 := []) (fn := parse_keywordWithin_v) rfl rfl rfl rfl (by kernel_rfl) lo h
theorem kw_do (lo : Nat) (h : VHeap) : callVL vp lo n_parse_keyword [.str [100,111]] h = some (.bool true,h) :=
  call_eval (K := 40) (h1 := []) (fn := parse_keyword_v) rfl rfl rfl rfl (by kernel_rfl) lo h
theorem kww_do (lo : Nat) (h : VHeap) : callVL vp lo n_parse_keywordWithin [.str [100,111]] h = some (.bool false,h) :=
  call_eval (K := 40) (h1 := []) (fn := parse_keywordWithin_v) rfl rfl rfl rfl (by kernel_rfl) lo h
theorem kw_any (lo : Nat) (h : VHeap) : callVL vp lo n_parse_keyword [.str [97,110,121]] h = some (.bool true,h) :=
  call_eval (K := 40) (h1 := []) (fn := parse_keyword_v) rfl rfl rfl rfl (by kernel_rfl) lo h
theorem kww_any (lo : Nat) (h : VHeap) : callVL vp lo n_parse_keywordWithin [.str [97,110,121]] h = some (.bool false,h) :=
  call_eval (K := 40) (h1 := []) (fn := parse_keywordWithin_v) rfl rfl rfl rfl (by kernel_rfl) lo h
theorem kw_repeat (lo : Nat) (h : VHeap) : callVL vp lo n_parse_keyword [.str [114,101,112,101,97,116]] h = some (.bool true,h) :=
  call_eval (K := 40) (h1 := []) (fn := parse_keyword_v) rfl rfl rfl rfl (by kernel_rfl) lo h
theorem kww_repeat (lo : Nat) (h : VHeap) : callVL vp lo n_parse_keywordWithin [.str [114,101,112,101,97,116]] h = some (.bool false,h) :=
  call_eval (K := 40) (h1 := []) (fn := parse_keywordWithin_v) rfl rfl rfl rfl (by kernel_rfl) lo h
theorem kw_try (lo : Nat) (h : VHeap) : callVL vp lo n_parse_keyword [.str [116,114,121]] h = some (.bool true,h) :=
  call_eval (K := 40) (h1 := []) (fn := parse_keyword_v) rfl rfl rfl rfl (by kernel_rfl) lo h
theorem kww_try (lo : Nat) (h : VHeap) : callVL vp lo n_parse_keywordWithin [.str [116,114,121]] h = some (.bool false,h) :=
  call_eval (K := 40) (h1 := []) (fn := parse_keywordWithin_v) rfl rfl rfl rfl (by kernel_rfl) lo h
end Vg.G3
namespace Vg.G3
open Go Lg Vg.Nm
set_option linter.unusedSimpArgs false
set_option linter.unusedVariables false
set_option maxRecDepth 10000
set_option maxHeartbeats 8000000
attribute [local congr] bind_congr1
attribute [local go_sem] parse_begins_r0 parse_begins_r1 parse_begins_f parse_begins_v parse_reader_stmt_r0 parse_reader_stmt_r1 parse_reader_stmt_r2 parse_reader_stmt_r3 parse_reader_stmt_r4 parse_reader_stmt_r5 parse_reader_stmt_r6 parse_reader_stmt_r7 parse_reader_stmt_r8 parse_reader_stmt_r9 parse_reader_stmt_r10 parse_reader_stmt_r11 parse_reader_stmt_r12 parse_reader_stmt_r13 parse_reader_stmt_r14 parse_reader_stmt_r15 parse_reader_stmt_r16 parse_reader_stmt_r17 parse_reader_stmt_r18 parse_reader_stmt_r19 parse_reader_stmt_r20 parse_reader_stmt_r21 parse_reader_stmt_r22 parse_reader_stmt_r23 parse_reader_stmt_r24 parse_reader_stmt_r25 parse_reader_stmt_r26 parse_reader_stmt_r27 parse_reader_stmt_r28 parse_reader_stmt_f parse_reader_stmt_v

/-- The kind that a word with a text has. -/
def kindOf : List UInt8 → Int
  | [] => 3
  | c :: _ => if Vg.W.isLetter c then 1 else if Vg.W.isDigit c then 2 else 3
/-- Words with these texts,of the texts' kinds. -/
def Mt (us : List Wd) (L : List (List UInt8)) : Prop := us.map (·.text) = L ∧ ∀ w ∈ us,w.kind = kindOf w.text
theorem Mt.cons {us : List Wd} {t : List UInt8} {L : List (List UInt8)} (h : Mt us (t :: L)) : ∃ w vs,us = w :: vs ∧ w.text = t ∧ w.kind = kindOf t ∧ Mt vs L := by
  cases us with
  | nil => cases h.1
  | cons w vs =>
    have h1 := h.1
    simp only [List.map_cons,List.cons.injEq] at h1
    exact ⟨w,vs,rfl,h1.1,by rw [← h1.1]; exact h.2 w (List.mem_cons_self ..),h1.2,fun x hx => h.2 x (List.mem_cons_of_mem _ hx)⟩
theorem Mt.nil {us : List Wd} (h : Mt us []) : us = [] := List.map_eq_nil_iff.1 h.1
theorem Mt.app {us : List Wd} {A B : List (List UInt8)} (h : Mt us (A ++ B)) : ∃ u v,us = u ++ v ∧ Mt u A ∧ Mt v B := by
  refine ⟨us.take A.length,us.drop A.length,(List.take_append_drop ..).symm,⟨?_,fun w hw => h.2 w (List.mem_of_mem_take hw)⟩,?_,fun w hw => h.2 w (List.mem_of_mem_drop hw)⟩
  · rw [List.map_take,h.1,List.take_left]
  · rw [List.map_drop,h.1,List.drop_left]
section
variable {lo q n : Nat} {hp : VBlk → VHeap}
theorem begins_spec (w : Wd) (us : List Wd) {t : List UInt8} (ht : w.text = t) (hk : ∀ lo h,callVL vp lo n_parse_keyword [.str t] h = some (.bool true,h)) (hw : ∀ lo h,callVL vp lo n_parse_keywordWithin [.str t] h = some (.bool false,h)) (lo : Nat) (h : VHeap) : callVL vp lo n_parse_begins [.list .s ((w :: us).map Vg.W.fW)] h = some (.bool true,h) := by
  refine call_valE (fn := parse_begins_v) rfl rfl rfl rfl rfl ?_ lo h
  have hww : Vg.W.fW w = [.int .i64 w.kind,.int .i64 (w.at_ : Nat),.str t] := by rw [← ht]; rfl
  have hll : (us.map Vg.W.fW).length = us.length := List.length_map _
  have hp : (0 : Int) < ((us.length + 1 : Nat) : Int) := by omega
  simp only [List.map_cons,hww]
  generalize us.map Vg.W.fW = U at *
  simp -implicitDefEqProofs only [go_sem,↓reduceIte,reduceCtorEq,Int.reduceLT,Int.reduceLE,Int.reduceToNat,Nat.reduceAdd,Nat.reduceMul,Nat.reduceLeDiff,Nat.reduceLT,Nat.reduceSub,Int.reduceNeg,Int.reduceEq,Int.reduceBEq,Int.reduceBNe,Nat.reduceEqDiff,hll,hp,hk,hw]
/-- Reading a statement without blocks. -/
theorem rstmt_leaf (H : HH lo q n hp) (w1 w5 : Wd) (us vs : List Wd) {t : List UInt8} (h1 : w1.text = t) (hk : ∀ lo h,callVL vp lo n_parse_keyword [.str t] h = some (.bool true,h)) (hw : ∀ lo h,callVL vp lo n_parse_keywordWithin [.str t] h = some (.bool false,h))
    (ne : (t == [100,111]) = false ∧ (t == [97,110,121]) = false ∧ (t == [114,101,112,101,97,116]) = false ∧ (t == [116,114,121]) = false) (h5 : w5.text = [59]) {k N : Int} {A B x y : List UInt8} {bs : List (List VV)} {left dp : Int} (hl1 : 1 ≤ left) (hl2 : left ≤ 100)
    (hpl : ∀ l,callVL vp lo n_parse_reader_plain [.ptr q 0] (hp (rdB (w1 :: us) (left - 1)) ++ l) = some (.tup [.agg [.int .i64 k,.str A,.str B,.bool false,.str x,.str y,.int .i64 N,.list .s bs],.bool true],hp (rdB (w5 :: vs) (left - 1)) ++ l)) :
    callVL vp lo n_parse_reader_stmt [.ptr q 0,.int .i64 dp] (hp (rdB (w1 :: us) left)) = some (.tup [.agg [.int .i64 k,.str A,.str B,.bool false,.str x,.str y,.int .i64 N,.list .s bs],.int .i64 0],hp (rdB vs (left - 1))) := by
  have key := call_body (p := vp) (lo := lo) (h := hp (rdB (w1 :: us) left)) (f := n_parse_reader_stmt) (fn := parse_reader_stmt_v) (args := [.ptr q 0,.int .i64 dp]) (P := fun r => r = (.tup [.agg [.int .i64 k,.str A,.str B,.bool false,.str x,.str y,.int .i64 N,.list .s bs],.int .i64 0],hp (rdB vs (left - 1)))) rfl (.inl rfl) rfl ?_
  · obtain ⟨r,hr,rfl⟩ := key; exact hr
  have hB := begins_spec w1 us h1 hk hw
  have T1 := fun l => take_no (H.app l) w1 us (t := [100,111]) (by rw [h1]; exact ne.1) (left - 1)
  have T2 := fun l => take_no (H.app l) w1 us (t := [97,110,121]) (by rw [h1]; exact ne.2.1) (left - 1)
  have T3 := fun l => take_no (H.app l) w1 us (t := [114,101,112,101,97,116]) (by rw [h1]; exact ne.2.2.1) (left - 1)
  have T4 := fun l => take_no (H.app l) w1 us (t := [116,114,121]) (by rw [h1]; exact ne.2.2.2) (left - 1)
  have T5 := fun l => take_yes (H.app l) w5 vs (t := [59]) h5 (left - 1)
  have hlo : (lo ≤ q) = True := eq_true H.lo
  have g := H.get
  have st := H.set
  have gq := fun x l => (H.app l).get x
  have sq := fun x y l => (H.app l).set x y
  have tk := H.take
  have tk' := H.take'
  have hl := H.len
  have g0 := H.get0
  have gk := H.getk
  have s0 := H.set0
  have sk := H.setk
  have l0 := H.lo0
  have lk := H.lok
  have wl : IntKind.i64.wrap (left - 1) = left - 1 := wrap_id (by omega) (by omega)
  have hn : ¬ (left - 1) < 0 := by omega
  unfold rdB at *
  generalize List.map Vg.W.fW (w1 :: us) = U1 at *
  generalize List.map Vg.W.fW (w5 :: vs) = U2 at *
  generalize List.map Vg.W.fW vs = U3 at *
  simp -implicitDefEqProofs (maxSteps := 1000000) only [go_sem,↓reduceIte,reduceCtorEq,Int.reduceLT,Int.reduceLE,Int.reduceToNat,Nat.reduceAdd,Nat.reduceMul,Nat.reduceLeDiff,Nat.reduceLT,Nat.reduceSub,Int.reduceNeg,Int.reduceEq,Int.reduceBEq,Int.reduceBNe,Nat.reduceEqDiff,hlo,g,st,gq,sq,tk,tk',hl,g0,gk,s0,sk,l0,lk,hB,wl,hn,T1,T2,T3,T4,T5,hpl,List.append_assoc,List.length_append,List.length_cons,List.length_nil,List.cons_append,List.nil_append,Nat.add_assoc]
end
mutual
def St.num : St → Nat
  | .leaf _ => 1
  | .blk _ _ bs => 1 + bs.num
def Sl.num : Sl → Nat
  | .nil => 0
  | .cons s l => s.num + l.num
def Bs.num : Bs → Nat
  | .nil => 0
  | .cons l b => l.num + b.num
end
/-- What follows does not begin with 'or'. -/
def NoOr (vs : List Wd) : Prop := ∃ w us,vs = w :: us ∧ (w.text == [111,114]) = false
/-- A statement's words are read as it. -/
def RdOk (x : St) (dp : Int) : Prop := ∀ (lo q n : Nat) (hp : VBlk → VHeap),HH lo q n hp → ∀ (us vs : List Wd) (left : Int),Mt us x.words → NoOr vs → (x.num : Int) ≤ left → left ≤ 100 →
  callVL vp lo n_parse_reader_stmt [.ptr q 0,.int .i64 dp] (hp (rdB (us ++ vs) left)) = some (.tup [.agg x.row,.int .i64 0],hp (rdB vs (left - x.num)))
theorem kind_part (i : Nat) : kindOf (partN i) = 1 := by unfold partN; split <;> decide
theorem kind_arm (i : Nat) : kindOf (armN i) = 1 := by unfold armN; split <;> decide
theorem kind_slot (i : Nat) : kindOf (slotN i) = 1 := by unfold slotN; split <;> decide
theorem kind_dig {m : Nat} (h1 : 1 ≤ m) (h3 : m ≤ 3) : kindOf (dig m) = 2 := by
  have hm : m = 1 ∨ m = 2 ∨ m = 3 := by omega
  rcases hm with rfl | rfl | rfl <;> decide
theorem kind_rtxt (d : Nat) : kindOf (rtxt d) = 2 := rfl
theorem rd_leaf {a p s : Nat} {l : Leaf} (g : l.ok a p s) (dp : Int) : RdOk (.leaf l) dp := by
  intro lo q n hp H us vs left hm hv hn hl
  rw [St.num] at hn ⊢
  rw [St.words] at hm
  rw [St.row]
  cases l with
  | put i j d =>
    by_cases hd : d = 0
    · subst hd
      simp only [Leaf.words,if_true,List.append_nil,List.cons_append,List.nil_append] at hm
      obtain ⟨w1,us,rfl,t1,k1,hm⟩ := hm.cons
      obtain ⟨w2,us,rfl,t2,k2,hm⟩ := hm.cons
      obtain ⟨w3,us,rfl,t3,k3,hm⟩ := hm.cons
      obtain ⟨w4,us,rfl,t4,k4,hm⟩ := hm.cons
      obtain ⟨w5,us,rfl,t5,k5,hm⟩ := hm.cons
      cases hm.nil
      rw [kind_part] at k2
      rw [kind_slot] at k4
      exact rstmt_leaf H w1 w5 (w2 :: w3 :: w4 :: w5 :: vs) vs t1 kw_put kww_put ⟨rfl,rfl,rfl,rfl⟩ t5 (by omega) hl fun l => rplain_put (H.app l) w1 w2 w3 w4 w5 vs t1 k2 t2 t3 k4 t4 t5 (left - 1)
    · simp only [Leaf.words,if_neg hd,List.cons_append,List.nil_append] at hm
      obtain ⟨w1,us,rfl,t1,k1,hm⟩ := hm.cons
      obtain ⟨w2,us,rfl,t2,k2,hm⟩ := hm.cons
      obtain ⟨w3,us,rfl,t3,k3,hm⟩ := hm.cons
      obtain ⟨w4,us,rfl,t4,k4,hm⟩ := hm.cons
      obtain ⟨w5,us,rfl,t5,k5,hm⟩ := hm.cons
      obtain ⟨w6,us,rfl,t6,k6,hm⟩ := hm.cons
      obtain ⟨w7,us,rfl,t7,k7,hm⟩ := hm.cons
      cases hm.nil
      rw [kind_part] at k2
      rw [kind_slot] at k4
      rw [kind_rtxt] at k6
      simp only [Leaf.ok] at g
      exact rstmt_leaf H w1 w7 (w2 :: w3 :: w4 :: w5 :: w6 :: w7 :: vs) vs t1 kw_put kww_put ⟨rfl,rfl,rfl,rfl⟩ t7 (by omega) hl fun l => rplain_putw (H.app l) w1 w2 w3 w4 w5 w6 (w7 :: vs) (by omega) (by omega) t1 k2 t2 t3 k4 t4 t5 k6 t6 (left - 1)
  | hold i j =>
    simp only [Leaf.words,List.cons_append,List.nil_append] at hm
    obtain ⟨w1,us,rfl,t1,k1,hm⟩ := hm.cons
    obtain ⟨w2,us,rfl,t2,k2,hm⟩ := hm.cons
    obtain ⟨w3,us,rfl,t3,k3,hm⟩ := hm.cons
    obtain ⟨w4,us,rfl,t4,k4,hm⟩ := hm.cons
    obtain ⟨w5,us,rfl,t5,k5,hm⟩ := hm.cons
    cases hm.nil
    rw [kind_part] at k2
    rw [kind_arm] at k4
    exact rstmt_leaf H w1 w5 (w2 :: w3 :: w4 :: w5 :: vs) vs t1 kw_hold kww_hold ⟨rfl,rfl,rfl,rfl⟩ t5 (by omega) hl fun l => rplain_hold (H.app l) w1 w2 w3 w4 (w5 :: vs) t1 k2 t2 t3 k4 t4 (left - 1)
  | free j =>
    simp only [Leaf.words,List.cons_append,List.nil_append] at hm
    obtain ⟨w1,us,rfl,t1,k1,hm⟩ := hm.cons
    obtain ⟨w2,us,rfl,t2,k2,hm⟩ := hm.cons
    obtain ⟨w5,us,rfl,t5,k5,hm⟩ := hm.cons
    cases hm.nil
    rw [kind_arm] at k2
    exact rstmt_leaf H w1 w5 (w2 :: w5 :: vs) vs t1 kw_free kww_free ⟨rfl,rfl,rfl,rfl⟩ t5 (by omega) hl fun l => rplain_free (H.app l) w1 w2 (w5 :: vs) t1 k2 t2 (left - 1)
  | see i =>
    simp only [Leaf.words,List.cons_append,List.nil_append] at hm
    obtain ⟨w1,us,rfl,t1,k1,hm⟩ := hm.cons
    obtain ⟨w2,us,rfl,t2,k2,hm⟩ := hm.cons
    obtain ⟨w5,us,rfl,t5,k5,hm⟩ := hm.cons
    cases hm.nil
    rw [kind_part] at k2
    exact rstmt_leaf H w1 w5 (w2 :: w5 :: vs) vs t1 kw_see kww_see ⟨rfl,rfl,rfl,rfl⟩ t5 (by omega) hl fun l => rplain_see (H.app l) w1 w2 (w5 :: vs) t1 k2 t2 (left - 1)
  | wait m =>
    simp only [Leaf.words,List.cons_append,List.nil_append] at hm
    simp only [Leaf.ok] at g
    obtain ⟨w1,us,rfl,t1,k1,hm⟩ := hm.cons
    obtain ⟨w2,us,rfl,t2,k2,hm⟩ := hm.cons
    obtain ⟨w5,us,rfl,t5,k5,hm⟩ := hm.cons
    cases hm.nil
    rw [kind_dig g.1 g.2] at k2
    exact rstmt_leaf H w1 w5 (w2 :: w5 :: vs) vs t1 kw_wait kww_wait ⟨rfl,rfl,rfl,rfl⟩ t5 (by omega) hl fun l => rplain_wait (H.app l) w1 w2 (w5 :: vs) g.1 g.2 t1 k2 t2 (left - 1)
end Vg.G3
