import Derived.Test.YtiidghpdgkfncaaVB2
namespace Vg.G2
open Go Lg
set_option linter.unusedSimpArgs false
set_option maxRecDepth 10000
set_option maxHeartbeats 2000000
attribute [local congr] bind_congr1
attribute [local go_sem] word_one_r0 word_one_r1 word_one_r2 word_one_r3 word_one_r4 word_one_r5 word_one_r6 word_one_r7 word_one_r8 word_one_r9 word_one_r10 word_one_r11 word_one_r12 word_one_r13 word_one_r14 word_one_r15 word_one_r16 word_one_f word_one_v

/-- The length of the number at the head. -/
def numL (r : List UInt8) : Nat :=
  match r.drop (tw isDigit r) with
  | a :: b :: _ => if (a.toNat : Int) = 47 ∧ isDigit b = true then tw isDigit r + 1 + tw isDigit (r.drop (tw isDigit r + 1)) else tw isDigit r
  | _ => tw isDigit r
/-- The word at the head: kind,length,error. -/
def oneL (r : List UInt8) : Int × Nat × Int :=
  match r with
  | [] => (0,0,15)
  | c :: _ =>
    if isLetter c = true then if isNameL (r.take (tw isLetter r)) = true then (1,tw isLetter r,0) else (0,0,2)
    else if isDigit c = true then if isNumL (r.take (numL r)) = true then (2,numL r,0) else (0,0,2)
    else if isSign c = true then (3,1,0) else (0,0,15)
theorem oneL_cons (c : UInt8) (r : List UInt8) : oneL (c :: r) = if isLetter c = true then if isNameL ((c :: r).take (tw isLetter (c :: r))) = true then (1,tw isLetter (c :: r),0) else (0,0,2)
    else if isDigit c = true then if isNumL ((c :: r).take (numL (c :: r))) = true then (2,numL (c :: r),0) else (0,0,2)
    else if isSign c = true then (3,1,0) else (0,0,15) := rfl
theorem numL_le (r : List UInt8) : numL r ≤ r.length := by
  have h1 := tw_le isDigit r
  unfold numL
  split
  · rename_i a b t ht
    split
    · have h2 := tw_le isDigit (r.drop (tw isDigit r + 1))
      have h3 : (r.drop (tw isDigit r)).length = r.length - tw isDigit r := List.length_drop
      rw [ht] at h3
      simp only [List.length_cons] at h3
      rw [List.length_drop] at h2
      omega
    · exact h1
  · exact h1
def oneV2 (r : List UInt8) (at_ : Nat) : VV := if (oneL r).2.2 = 0 then .tup [.agg [.int .i64 (oneL r).1,.int .i64 (at_ : Nat),.str (r.take (oneL r).2.1)],.int .i64 0] else .tup [.agg [.int .i64 0,.int .i64 0,.str []],.int .i64 (oneL r).2.2]
theorem take_drop' (s : List UInt8) (a n : Nat) : (s.take (a + n)).drop a = (s.drop a).take n := by rw [List.drop_take]; congr 1; omega
theorem one_spec (s : List UInt8) (hs : s.length ≤ 4096) (a : Nat) (ha : a < s.length) (lo : Nat) (h : VHeap) : callVL vp lo n_word_one [.str s,.int .i64 (a : Nat)] h = some (oneV2 (s.drop a) a,h) := by
  refine call_valE (fn := word_one_v) rfl rfl rfl rfl rfl ?_ lo h
  obtain ⟨c,hc⟩ := get_some ha
  have hd := drop_get hc
  have hw := wrap_succ (i := a) (by omega)
  have hL := fun lo h => letter_spec c lo h
  have hD := fun lo h => digit_spec c lo h
  have hS := fun lo h => sign_spec c lo h
  have hrl := run_spec letter_spec s hs a (by omega)
  have hrd := run_spec digit_spec s hs a (by omega)
  have tl := tw_le isLetter (s.drop a)
  have td := tw_le isDigit (s.drop a)
  have tn := numL_le (s.drop a)
  rw [List.length_drop] at tl td tn
  have hle : ∀ n,n ≤ s.length - a → a + n ≤ s.length ∧ a ≤ a + n := fun n hn => by omega
  by_cases h1 : isLetter c = true
  · have hN := IsName_spec ((s.drop a).take (tw isLetter (s.drop a))) (by simp only [List.length_take,List.length_drop]; omega)
    by_cases h2 : isNameL ((s.drop a).take (tw isLetter (s.drop a))) = true
    · have e : oneL (s.drop a) = (1,tw isLetter (s.drop a),0) := by rw [hd,oneL_cons]; simp only [h1,if_true]; rw [hd] at h2; simp only [h2,if_true]
      unfold oneV2
      simp only [e,if_true]
      generalize tw isLetter (s.drop a) = n at *
      simp -implicitDefEqProofs only [go_sem,↓reduceIte,reduceCtorEq,Int.reduceLT,Int.reduceLE,Int.reduceToNat,Nat.reduceAdd,Nat.reduceMul,Nat.reduceLeDiff,Nat.reduceLT,Nat.reduceSub,Int.reduceNeg,Int.reduceEq,Int.reduceBEq,Int.reduceBNe,Nat.reduceEqDiff,hc,hL,h1,hrl,hw,(hle n tl).1,(hle n tl).2,take_drop',hN,h2]
    · have e : oneL (s.drop a) = (0,0,2) := by rw [hd,oneL_cons]; simp only [h1,if_true]; rw [hd] at h2; simp only [h2,if_false,Bool.false_eq_true]
      unfold oneV2
      simp only [e]
      generalize tw isLetter (s.drop a) = n at *
      simp -implicitDefEqProofs only [go_sem,↓reduceIte,reduceCtorEq,Int.reduceLT,Int.reduceLE,Int.reduceToNat,Nat.reduceAdd,Nat.reduceMul,Nat.reduceLeDiff,Nat.reduceLT,Nat.reduceSub,Int.reduceNeg,Int.reduceEq,Int.reduceBEq,Int.reduceBNe,Nat.reduceEqDiff,hc,hL,h1,hrl,hw,(hle n tl).1,(hle n tl).2,take_drop',hN,h2]
  by_cases h2 : isDigit c = true
  · have e : ∀ n,numL (s.drop a) = n → oneL (s.drop a) = if isNumL ((s.drop a).take n) = true then (2,n,0) else (0,0,2) := by
      rintro n rfl; rw [hd,oneL_cons]; simp only [h1,h2,if_true,if_false,Bool.false_eq_true]
    have h1' : isLetter c = false := by simpa using h1
    generalize hdt : tw isDigit (s.drop a) = d at *
    have hw2 := wrap_succ (i := a + d) (by omega)
    have hdd : (s.drop a).drop d = s.drop (a + d) := by rw [List.drop_drop]
    rcases Nat.lt_or_ge (a + d + 1) s.length with hlt | hge
    case inr =>
      have hn : numL (s.drop a) = d := by
        unfold numL
        rw [hdt,hdd]
        have h5 : (s.drop (a + d)).length ≤ 1 := by rw [List.length_drop]; omega
        split
        · rename_i h6; rw [h6] at h5; simp at h5
        · rfl
      have hN := IsNumber_spec ((s.drop a).take d) (by simp only [List.length_take,List.length_drop]; omega)
      have hge' : ¬ ((a + d + 1 : Nat) : Int) < (s.length : Int) := by omega
      unfold oneV2
      rw [e d hn]
      by_cases h3 : isNumL ((s.drop a).take d) = true <;> simp -implicitDefEqProofs only [go_sem,↓reduceIte,reduceCtorEq,Int.reduceLT,Int.reduceLE,Int.reduceToNat,Nat.reduceAdd,Nat.reduceMul,Nat.reduceLeDiff,Nat.reduceLT,Nat.reduceSub,Int.reduceNeg,Int.reduceEq,Int.reduceBEq,Int.reduceBNe,Nat.reduceEqDiff,hc,hL,hD,h1,h2,hrd,hw,hw2,hge',(hle d td).1,(hle d td).2,take_drop',hN,h3]
    have hlt' : ((a + d + 1 : Nat) : Int) < (s.length : Int) := by omega
    obtain ⟨x,hx⟩ := get_some (show a + d < s.length by omega)
    obtain ⟨y,hy⟩ := get_some hlt
    have hdx := drop_get hx
    have hdy := drop_get hy
    have hDy := fun lo h => digit_spec y lo h
    by_cases h47 : (x.toNat : Int) = 47
    case neg =>
      have hn : numL (s.drop a) = d := by
        unfold numL
        rw [hdt,hdd,hdx,hdy]
        simp only [h47,false_and,if_false]
      have hN := IsNumber_spec ((s.drop a).take d) (by simp only [List.length_take,List.length_drop]; omega)
      unfold oneV2
      rw [e d hn]
      by_cases h3 : isNumL ((s.drop a).take d) = true <;> simp -implicitDefEqProofs only [go_sem,↓reduceIte,reduceCtorEq,Int.reduceLT,Int.reduceLE,Int.reduceToNat,Nat.reduceAdd,Nat.reduceMul,Nat.reduceLeDiff,Nat.reduceLT,Nat.reduceSub,Int.reduceNeg,Int.reduceEq,Int.reduceBEq,Int.reduceBNe,Nat.reduceEqDiff,hc,hL,hD,h1,h2,hrd,hw,hw2,hlt',hx,h47,(hle d td).1,(hle d td).2,take_drop',hN,h3]
    by_cases h4 : isDigit y = true
    case neg =>
      have hn : numL (s.drop a) = d := by
        unfold numL
        rw [hdt,hdd,hdx,hdy]
        simp only [h4,and_false,if_false,Bool.false_eq_true]
      have hN := IsNumber_spec ((s.drop a).take d) (by simp only [List.length_take,List.length_drop]; omega)
      unfold oneV2
      rw [e d hn]
      by_cases h3 : isNumL ((s.drop a).take d) = true <;> simp -implicitDefEqProofs only [go_sem,↓reduceIte,reduceCtorEq,Int.reduceLT,Int.reduceLE,Int.reduceToNat,Nat.reduceAdd,Nat.reduceMul,Nat.reduceLeDiff,Nat.reduceLT,Nat.reduceSub,Int.reduceNeg,Int.reduceEq,Int.reduceBEq,Int.reduceBNe,Nat.reduceEqDiff,hc,hL,hD,h1,h2,hrd,hw,hw2,hlt',hx,hy,hDy,h47,h4,(hle d td).1,(hle d td).2,take_drop',hN,h3]
    have hn : numL (s.drop a) = d + 1 + tw isDigit (s.drop (a + d + 1)) := by
      unfold numL
      rw [hdt,hdd,hdx,hdy]
      simp only [h4,h47,and_self,if_true]
      rw [List.drop_drop,← hdy]; rfl
    have hrd2 := run_spec digit_spec s hs (a + d + 1) (by omega)
    have hea : a + d + 1 + tw isDigit (s.drop (a + d + 1)) = a + (d + 1 + tw isDigit (s.drop (a + d + 1))) := by omega
    rw [hea] at hrd2
    rw [hn] at tn
    generalize d + 1 + tw isDigit (s.drop (a + d + 1)) = n at *
    have hN := IsNumber_spec ((s.drop a).take n) (by simp only [List.length_take,List.length_drop]; omega)
    unfold oneV2
    rw [e n hn]
    by_cases h3 : isNumL ((s.drop a).take n) = true <;> simp -implicitDefEqProofs only [go_sem,↓reduceIte,reduceCtorEq,Int.reduceLT,Int.reduceLE,Int.reduceToNat,Nat.reduceAdd,Nat.reduceMul,Nat.reduceLeDiff,Nat.reduceLT,Nat.reduceSub,Int.reduceNeg,Int.reduceEq,Int.reduceBEq,Int.reduceBNe,Nat.reduceEqDiff,hc,hL,hD,h1,h2,hrd,hw,hw2,hlt',hx,hy,hDy,h47,h4,hrd2,(hle n tn).1,(hle n tn).2,take_drop',hN,h3]
  by_cases h3 : isSign c = true
  · have e : oneL (s.drop a) = (3,1,0) := by rw [hd,oneL_cons]; simp only [h1,h2,h3,if_true,if_false,Bool.false_eq_true]
    unfold oneV2
    simp only [e,if_true]
    have h4 : a + 1 ≤ s.length := ha
    have h5 : a ≤ a + 1 := by omega
    simp -implicitDefEqProofs only [go_sem,↓reduceIte,reduceCtorEq,Int.reduceLT,Int.reduceLE,Int.reduceToNat,Nat.reduceAdd,Nat.reduceMul,Nat.reduceLeDiff,Nat.reduceLT,Nat.reduceSub,Int.reduceNeg,Int.reduceEq,Int.reduceBEq,Int.reduceBNe,Nat.reduceEqDiff,hc,hL,hD,hS,h1,h2,h3,hw,h4,h5,take_drop']
  · have e : oneL (s.drop a) = (0,0,15) := by rw [hd,oneL_cons]; simp only [h1,h2,h3,if_true,if_false,Bool.false_eq_true]
    unfold oneV2
    simp only [e]
    simp -implicitDefEqProofs only [go_sem,↓reduceIte,reduceCtorEq,Int.reduceLT,Int.reduceLE,Int.reduceToNat,Nat.reduceAdd,Nat.reduceMul,Nat.reduceLeDiff,Nat.reduceLT,Nat.reduceSub,Int.reduceNeg,Int.reduceEq,Int.reduceBEq,Int.reduceBNe,Nat.reduceEqDiff,hc,hL,hD,hS,h1,h2,h3,hw]
end Vg.G2
