import Derived.Test.YtpoofafddbcnpaaVH7
namespace Vg.G3
open Go Lg
set_option linter.unusedSimpArgs false
set_option linter.unusedVariables false
set_option maxRecDepth 10000
set_option maxHeartbeats 4000000
attribute [local congr] bind_congr1
attribute [local go_sem] slices_Equal_intint_r0 slices_Equal_intint_r1 slices_Equal_intint_r2 slices_Equal_intint_r3 slices_Equal_intint_r4 slices_Equal_intint_r5 slices_Equal_intint_r6 slices_Equal_intint_r6_d slices_Equal_intint_r7 slices_Equal_intint_r8 slices_Equal_intint_r9 slices_Equal_intint_f slices_Equal_intint_v slices_Equal_boolbool_r0 slices_Equal_boolbool_r1 slices_Equal_boolbool_r2 slices_Equal_boolbool_r3 slices_Equal_boolbool_r4 slices_Equal_boolbool_r5 slices_Equal_boolbool_r6 slices_Equal_boolbool_r6_d slices_Equal_boolbool_r7 slices_Equal_boolbool_r8 slices_Equal_boolbool_r9 slices_Equal_boolbool_f slices_Equal_boolbool_v act_Same_r0 act_Same_r1 act_Same_f act_Same_v act_Start_r0 act_Start_r1 act_Start_r2 act_Start_r3 act_Start_r3_d act_Start_r4 act_Start_r5 act_Start_r6 act_Start_r7 act_Start_r8 act_Start_r9 act_Start_r10 act_Start_r11 act_Start_r12 act_Start_f act_Start_v
theorem EqualI_spec (A B : List Int) (hA : A.length ≤ 1000) (hB : B.length ≤ 1000) (lo : Nat) (h : VHeap) : callVL vp lo n_slices_Equal_intint [.list .s (A.map fI),.list .s (B.map fI)] h = some (.bool (decide (A = B)),h) := by
  refine call_valE (fn := slices_Equal_intint_v) rfl rfl rfl rfl rfl ?_ lo h
  generalize hT : decide (A = B) = T
  obtain ⟨P,hP⟩ : ∃ P : VV → Prop,P = fun w : VV => w = .bool T := ⟨_,rfl⟩
  have hP1 : P (.bool T) := by subst hP; rfl
  have hP2 : (fun r : VV × VHeap => r.1 = .bool T) = fun r => P r.1 := by subst hP; rfl
  rw [hP2]
  clear hP hP2
  by_cases hl : A.length = B.length
  case neg =>
    obtain rfl : false = T := by rw [← hT,eq_comm,decide_eq_false_iff_not]; exact fun h => hl (by rw [h])
    have hl' : ¬ (A.length : Int) = (B.length : Int) := by omega
    simp -implicitDefEqProofs only [slices_Equal_intint_b0,go_sem,↓reduceIte,reduceCtorEq,Int.reduceLT,Int.reduceLE,Int.reduceToNat,Nat.reduceAdd,Nat.reduceMul,Nat.reduceLeDiff,Nat.reduceLT,Nat.reduceSub,Int.reduceNeg,Int.reduceEq,Int.reduceBEq,Int.reduceBNe,Nat.reduceEqDiff,hl']
    exact hP1
  simp -implicitDefEqProofs only [go_sem,↓reduceIte,reduceCtorEq,Int.reduceLT,Int.reduceLE,Int.reduceToNat,Nat.reduceAdd,Nat.reduceMul,Nat.reduceLeDiff,Nat.reduceLT,Nat.reduceSub,Int.reduceNeg,Int.reduceEq,Int.reduceBEq,Int.reduceBNe,Nat.reduceEqDiff,hl]
  rw [Sat_bind]
  refine loop_up (I := fun i env h' => h' = [] ∧ (∀ j,j < i → A[j]? = B[j]?) ∧ env = [.list .s (A.map fI),.list .s (B.map fI),.undef,.undef,.undef,.undef,.undef,.undef,.undef,.undef,.undef,.undef,.int .i64 ((B.length : Nat) : Int),.int .i64 ((i : Nat) : Int),.undef,.undef,.undef,.undef,.undef,.undef,.undef,.undef,.undef,.undef,.undef,.undef]) B.length ?_ ?_ (Nat.zero_le _) ⟨rfl,fun j hj => absurd hj (Nat.not_lt_zero j),by simp -implicitDefEqProofs only [go_sem,↓reduceIte,reduceCtorEq,Int.reduceLT,Int.reduceLE,Int.reduceToNat,Nat.reduceAdd,Nat.reduceMul,Nat.reduceLeDiff,Nat.reduceLT,Nat.reduceSub,Int.reduceNeg,Int.reduceEq,Int.reduceBEq,Int.reduceBNe,Nat.reduceEqDiff]⟩
  · rintro i env h' hi ⟨rfl,hI,rfl⟩
    obtain ⟨f,hf⟩ := get_some (xs := A) (i := i) (by omega)
    obtain ⟨g,hg⟩ := get_some hi
    have hfg := get_map (F := fI) hf
    have hgg := get_map (F := fI) hg
    simp only [fI] at hfg hgg
    have hi' : (i : Int) < (B.length : Int) := by omega
    have hw := wrap_succ (i := i) (by omega)
    by_cases e1 : f = g
    · subst e1
      simp -implicitDefEqProofs only [slices_Equal_intint_b0,go_sem,↓reduceIte,reduceCtorEq,Int.reduceLT,Int.reduceLE,Int.reduceToNat,Nat.reduceAdd,Nat.reduceMul,Nat.reduceLeDiff,Nat.reduceLT,Nat.reduceSub,Int.reduceNeg,Int.reduceEq,Int.reduceBEq,Int.reduceBNe,Nat.reduceEqDiff,hi',hfg,hgg,hw]
      intro j hj
      rcases Nat.lt_succ_iff_lt_or_eq.1 hj with hj | rfl
      · exact hI j hj
      · rw [hf,hg]
    · obtain rfl : false = T := by
        rw [← hT,eq_comm,decide_eq_false_iff_not]; intro e; rw [e,hg] at hf; cases hf; exact e1 rfl
      simp -implicitDefEqProofs only [slices_Equal_intint_b0,go_sem,↓reduceIte,reduceCtorEq,Int.reduceLT,Int.reduceLE,Int.reduceToNat,Nat.reduceAdd,Nat.reduceMul,Nat.reduceLeDiff,Nat.reduceLT,Nat.reduceSub,Int.reduceNeg,Int.reduceEq,Int.reduceBEq,Int.reduceBNe,Nat.reduceEqDiff,hi',hfg,hgg,hw,e1]
      exact hP1
  · rintro env h' ⟨rfl,hI,rfl⟩
    obtain rfl : true = T := by
      rw [← hT,eq_comm,decide_eq_true_iff]
      refine List.ext_getElem? fun j => ?_
      rcases Nat.lt_or_ge j B.length with hj | hj
      · exact hI j hj
      · rw [List.getElem?_eq_none hj,List.getElem?_eq_none (by omega)]
    simp -implicitDefEqProofs only [slices_Equal_intint_b0,go_sem,↓reduceIte,reduceCtorEq,Int.reduceLT,Int.reduceLE,Int.reduceToNat,Nat.reduceAdd,Nat.reduceMul,Nat.reduceLeDiff,Nat.reduceLT,Nat.reduceSub,Int.reduceNeg,Int.reduceEq,Int.reduceBEq,Int.reduceBNe,Nat.reduceEqDiff,Int.lt_irrefl]
    exact hP1
theorem EqualB_spec (A B : List Bool) (hA : A.length ≤ 1000) (hB : B.length ≤ 1000) (lo : Nat) (h : VHeap) : callVL vp lo n_slices_Equal_boolbool [.list .s (A.map fB),.list .s (B.map fB)] h = some (.bool (decide (A = B)),h) := by
  refine call_valE (fn := slices_Equal_boolbool_v) rfl rfl rfl rfl rfl ?_ lo h
  generalize hT : decide (A = B) = T
  obtain ⟨P,hP⟩ : ∃ P : VV → Prop,P = fun w : VV => w = .bool T := ⟨_,rfl⟩
  have hP1 : P (.bool T) := by subst hP; rfl
  have hP2 : (fun r : VV × VHeap => r.1 = .bool T) = fun r => P r.1 := by subst hP; rfl
  rw [hP2]
  clear hP hP2
  by_cases hl : A.length = B.length
  case neg =>
    obtain rfl : false = T := by rw [← hT,eq_comm,decide_eq_false_iff_not]; exact fun h => hl (by rw [h])
    have hl' : ¬ (A.length : Int) = (B.length : Int) := by omega
    simp -implicitDefEqProofs only [slices_Equal_boolbool_b0,go_sem,↓reduceIte,reduceCtorEq,Int.reduceLT,Int.reduceLE,Int.reduceToNat,Nat.reduceAdd,Nat.reduceMul,Nat.reduceLeDiff,Nat.reduceLT,Nat.reduceSub,Int.reduceNeg,Int.reduceEq,Int.reduceBEq,Int.reduceBNe,Nat.reduceEqDiff,hl']
    exact hP1
  simp -implicitDefEqProofs only [go_sem,↓reduceIte,reduceCtorEq,Int.reduceLT,Int.reduceLE,Int.reduceToNat,Nat.reduceAdd,Nat.reduceMul,Nat.reduceLeDiff,Nat.reduceLT,Nat.reduceSub,Int.reduceNeg,Int.reduceEq,Int.reduceBEq,Int.reduceBNe,Nat.reduceEqDiff,hl]
  rw [Sat_bind]
  refine loop_up (I := fun i env h' => h' = [] ∧ (∀ j,j < i → A[j]? = B[j]?) ∧ env = [.list .s (A.map fB),.list .s (B.map fB),.undef,.undef,.undef,.undef,.undef,.undef,.undef,.undef,.undef,.undef,.int .i64 ((B.length : Nat) : Int),.int .i64 ((i : Nat) : Int),.undef,.undef,.undef,.undef,.undef,.undef,.undef,.undef,.undef,.undef,.undef,.undef]) B.length ?_ ?_ (Nat.zero_le _) ⟨rfl,fun j hj => absurd hj (Nat.not_lt_zero j),by simp -implicitDefEqProofs only [go_sem,↓reduceIte,reduceCtorEq,Int.reduceLT,Int.reduceLE,Int.reduceToNat,Nat.reduceAdd,Nat.reduceMul,Nat.reduceLeDiff,Nat.reduceLT,Nat.reduceSub,Int.reduceNeg,Int.reduceEq,Int.reduceBEq,Int.reduceBNe,Nat.reduceEqDiff]⟩
  · rintro i env h' hi ⟨rfl,hI,rfl⟩
    obtain ⟨f,hf⟩ := get_some (xs := A) (i := i) (by omega)
    obtain ⟨g,hg⟩ := get_some hi
    have hfg := get_map (F := fB) hf
    have hgg := get_map (F := fB) hg
    simp only [fB] at hfg hgg
    have hi' : (i : Int) < (B.length : Int) := by omega
    have hw := wrap_succ (i := i) (by omega)
    have bad : f ≠ g → false = T := fun e1 => by
      rw [← hT,eq_comm,decide_eq_false_iff_not]; intro e; rw [e,hg] at hf; cases hf; exact e1 rfl
    have next : f = g → ∀ j,j < i + 1 → A[j]? = B[j]? := fun e1 j hj => by
      rcases Nat.lt_succ_iff_lt_or_eq.1 hj with hj | rfl
      · exact hI j hj
      · rw [hf,hg,e1]
    cases f <;> cases g
    · simp -implicitDefEqProofs only [slices_Equal_boolbool_b0,go_sem,↓reduceIte,reduceCtorEq,Int.reduceLT,Int.reduceLE,Int.reduceToNat,Nat.reduceAdd,Nat.reduceMul,Nat.reduceLeDiff,Nat.reduceLT,Nat.reduceSub,Int.reduceNeg,Int.reduceEq,Int.reduceBEq,Int.reduceBNe,Nat.reduceEqDiff,hi',hfg,hgg,hw]
      exact next rfl
    · obtain rfl := bad (by decide)
      simp -implicitDefEqProofs only [slices_Equal_boolbool_b0,go_sem,↓reduceIte,reduceCtorEq,Int.reduceLT,Int.reduceLE,Int.reduceToNat,Nat.reduceAdd,Nat.reduceMul,Nat.reduceLeDiff,Nat.reduceLT,Nat.reduceSub,Int.reduceNeg,Int.reduceEq,Int.reduceBEq,Int.reduceBNe,Nat.reduceEqDiff,hi',hfg,hgg,hw]
      exact hP1
    · obtain rfl := bad (by decide)
      simp -implicitDefEqProofs only [slices_Equal_boolbool_b0,go_sem,↓reduceIte,reduceCtorEq,Int.reduceLT,Int.reduceLE,Int.reduceToNat,Nat.reduceAdd,Nat.reduceMul,Nat.reduceLeDiff,Nat.reduceLT,Nat.reduceSub,Int.reduceNeg,Int.reduceEq,Int.reduceBEq,Int.reduceBNe,Nat.reduceEqDiff,hi',hfg,hgg,hw]
      exact hP1
    · simp -implicitDefEqProofs only [slices_Equal_boolbool_b0,go_sem,↓reduceIte,reduceCtorEq,Int.reduceLT,Int.reduceLE,Int.reduceToNat,Nat.reduceAdd,Nat.reduceMul,Nat.reduceLeDiff,Nat.reduceLT,Nat.reduceSub,Int.reduceNeg,Int.reduceEq,Int.reduceBEq,Int.reduceBNe,Nat.reduceEqDiff,hi',hfg,hgg,hw]
      exact next rfl
  · rintro env h' ⟨rfl,hI,rfl⟩
    obtain rfl : true = T := by
      rw [← hT,eq_comm,decide_eq_true_iff]
      refine List.ext_getElem? fun j => ?_
      rcases Nat.lt_or_ge j B.length with hj | hj
      · exact hI j hj
      · rw [List.getElem?_eq_none hj,List.getElem?_eq_none (by omega)]
    simp -implicitDefEqProofs only [slices_Equal_boolbool_b0,go_sem,↓reduceIte,reduceCtorEq,Int.reduceLT,Int.reduceLE,Int.reduceToNat,Nat.reduceAdd,Nat.reduceMul,Nat.reduceLeDiff,Nat.reduceLT,Nat.reduceSub,Int.reduceNeg,Int.reduceEq,Int.reduceBEq,Int.reduceBNe,Nat.reduceEqDiff,Int.lt_irrefl]
    exact hP1
theorem Same_spec (a b : Wd) (ha : a.pl.length ≤ 1000 ∧ a.sn.length ≤ 1000 ∧ a.sp.length ≤ 1000) (hb : b.pl.length ≤ 1000 ∧ b.sn.length ≤ 1000 ∧ b.sp.length ≤ 1000) (lo : Nat) (h : VHeap) : callVL vp lo n_act_Same [.agg (fW a),.agg (fW b)] h = some (.bool (decide (a = b)),h) := by
  refine call_valE (fn := act_Same_v) rfl rfl rfl rfl rfl ?_ lo h
  have h1 := EqualI_spec a.pl b.pl ha.1 hb.1
  have h2 := EqualB_spec a.sn b.sn ha.2.1 hb.2.1
  have h3 := EqualI_spec a.sp b.sp ha.2.2 hb.2.2
  obtain ⟨s1,p1,n1,q1⟩ := a
  obtain ⟨s2,p2,n2,q2⟩ := b
  simp only [Wd.mk.injEq] at h1 h2 h3 ⊢
  by_cases c1 : s1 = s2
  · subst c1
    by_cases c2 : p1 = p2
    · subst c2
      simp only [decide_true] at h1
      by_cases c3 : n1 = n2
      · subst c3
        simp only [decide_true] at h2
        by_cases c4 : q1 = q2
        · subst c4
          simp only [decide_true] at h3
          simp -implicitDefEqProofs only [go_sem,↓reduceIte,reduceCtorEq,Int.reduceLT,Int.reduceLE,Int.reduceToNat,Nat.reduceAdd,Nat.reduceMul,Nat.reduceLeDiff,Nat.reduceLT,Nat.reduceSub,Int.reduceNeg,Int.reduceEq,Int.reduceBEq,Int.reduceBNe,Nat.reduceEqDiff,fW,h1,h2,h3]
        · simp only [c4,decide_false] at h3
          simp -implicitDefEqProofs only [go_sem,↓reduceIte,reduceCtorEq,Int.reduceLT,Int.reduceLE,Int.reduceToNat,Nat.reduceAdd,Nat.reduceMul,Nat.reduceLeDiff,Nat.reduceLT,Nat.reduceSub,Int.reduceNeg,Int.reduceEq,Int.reduceBEq,Int.reduceBNe,Nat.reduceEqDiff,fW,h1,h2,h3,c4]
      · simp only [c3,decide_false] at h2
        simp -implicitDefEqProofs only [go_sem,↓reduceIte,reduceCtorEq,Int.reduceLT,Int.reduceLE,Int.reduceToNat,Nat.reduceAdd,Nat.reduceMul,Nat.reduceLeDiff,Nat.reduceLT,Nat.reduceSub,Int.reduceNeg,Int.reduceEq,Int.reduceBEq,Int.reduceBNe,Nat.reduceEqDiff,fW,h1,h2,c3]
    · simp only [c2,decide_false] at h1
      simp -implicitDefEqProofs only [go_sem,↓reduceIte,reduceCtorEq,Int.reduceLT,Int.reduceLE,Int.reduceToNat,Nat.reduceAdd,Nat.reduceMul,Nat.reduceLeDiff,Nat.reduceLT,Nat.reduceSub,Int.reduceNeg,Int.reduceEq,Int.reduceBEq,Int.reduceBNe,Nat.reduceEqDiff,fW,h1,c2]
  · simp -implicitDefEqProofs only [go_sem,↓reduceIte,reduceCtorEq,Int.reduceLT,Int.reduceLE,Int.reduceToNat,Nat.reduceAdd,Nat.reduceMul,Nat.reduceLeDiff,Nat.reduceLT,Nat.reduceSub,Int.reduceNeg,Int.reduceEq,Int.reduceBEq,Int.reduceBNe,Nat.reduceEqDiff,fW,h1,h2,h3,c1]
/-- The world at the beginning. -/
def startW (a p s : Nat) : Wd := ⟨s,List.replicate p (-1),List.replicate p false,List.replicate a (-1)⟩
theorem rep_snocI (n : Nat) : (List.replicate (n + 1) (-1 : Int)).map fI = (List.replicate n (-1 : Int)).map fI ++ [[.int .i64 (-1)]] := by rw [List.replicate_succ',List.map_append]; rfl
theorem Start_spec (A W Pp S G : List (List VV)) (x : Bool) (y z : List UInt8) (hA : A.length ≤ 4) (hP : Pp.length ≤ 6) (hS : S.length ≤ 8) (lo : Nat) (h : VHeap) :
    callVL vp lo n_act_Start [.agg [.list .s A,.list .s W,.list .s Pp,.list .s S,.list .s G,.bool x,.str y,.str z]] h = some (.agg (fW (startW A.length Pp.length S.length)),h) := by
  refine call_valE (fn := act_Start_v) rfl rfl rfl rfl rfl ?_ lo h
  have a1 : ¬ (4 : Int) < (A.length : Int) := by omega
  have a2 : ¬ (6 : Int) < (Pp.length : Int) := by omega
  have a3 : ¬ (8 : Int) < (S.length : Int) := by omega
  have m1 : (0 : Int) ≤ (Pp.length : Int) := by omega
  have m2 : (Pp.length : Int) ≤ 281474976710656 := by omega
  generalize hT : fW (startW A.length Pp.length S.length) = T
  obtain ⟨P,hP⟩ : ∃ P : VV → Prop,P = fun v : VV => v = .agg T := ⟨_,rfl⟩
  have hP1 : P (.agg T) := by subst hP; rfl
  have hP2 : (fun r : VV × VHeap => r.1 = .agg T) = fun r => P r.1 := by subst hP; rfl
  rw [hP2]
  clear hP hP2
  simp -implicitDefEqProofs only [go_sem,↓reduceIte,reduceCtorEq,Int.reduceLT,Int.reduceLE,Int.reduceToNat,Nat.reduceAdd,Nat.reduceMul,Nat.reduceLeDiff,Nat.reduceLT,Nat.reduceSub,Int.reduceNeg,Int.reduceEq,Int.reduceBEq,Int.reduceBNe,Nat.reduceEqDiff,a1,a2,a3,m1,m2,Int.one_mul]
  rw [Sat_bind]
  refine loop_up (I := fun i env h => env = [.undef,.ptr 0 0,.ptr 1 0,.ptr 2 0,.undef,.undef,.undef,.undef,.undef,.undef,.undef,.undef,.undef,.undef,.undef,.undef,.undef,.undef,.undef,.undef,.undef,.undef,.undef,.undef,.undef,.undef,.undef,.undef,.undef,.undef,.undef,.int .i64 ((Pp.length : Nat) : Int),.int .i64 ((i : Nat) : Int),.undef,.undef,.undef,.undef,.undef,.undef,.undef,.undef,.undef,.undef,.undef,.undef,.undef,.undef,.undef,.undef,.undef,.undef,.undef] ∧ h = [.cells true [.list .s A,.list .s W,.list .s Pp,.list .s S,.list .s G,.bool x,.str y,.str z],.cells true [.int .i64 0,.list .o [],.list .o [],.list .o []],
    .cells true [.int .i64 ((S.length : Nat) : Int),.list .o ((List.replicate i (-1)).map fI),.list .o (List.replicate Pp.length [.bool false]),.list .o []]]) Pp.length ?_ ?_ (Nat.zero_le _) ⟨by simp -implicitDefEqProofs only [go_sem,↓reduceIte,reduceCtorEq,Int.reduceLT,Int.reduceLE,Int.reduceToNat,Nat.reduceAdd,Nat.reduceMul,Nat.reduceLeDiff,Nat.reduceLT,Nat.reduceSub,Int.reduceNeg,Int.reduceEq,Int.reduceBEq,Int.reduceBNe,Nat.reduceEqDiff],by simp -implicitDefEqProofs only [go_sem,↓reduceIte,reduceCtorEq,Int.reduceLT,Int.reduceLE,Int.reduceToNat,Nat.reduceAdd,Nat.reduceMul,Nat.reduceLeDiff,Nat.reduceLT,Nat.reduceSub,Int.reduceNeg,Int.reduceEq,Int.reduceBEq,Int.reduceBNe,Nat.reduceEqDiff]⟩
  · rintro i env h hi ⟨rfl,rfl⟩
    have hi' : (i : Int) < (Pp.length : Int) := by omega
    have hw := wrap_succ (i := i) (by omega)
    have ali := all_len (F := fI) (es := 1) (fun _ => rfl) (List.replicate i (-1))
    have r1 : (i + 1 + 512) * 8 ≤ 140737488355328 := by omega
    rw [rep_snocI]
    simp -implicitDefEqProofs only [act_Start_b0,act_Start_b1,go_sem,↓reduceIte,reduceCtorEq,Int.reduceLT,Int.reduceLE,Int.reduceToNat,Nat.reduceAdd,Nat.reduceMul,Nat.reduceLeDiff,Nat.reduceLT,Nat.reduceSub,Int.reduceNeg,Int.reduceEq,Int.reduceBEq,Int.reduceBNe,Nat.reduceEqDiff,hi',hw,ali,r1,List.length_replicate]
  · rintro env h ⟨rfl,rfl⟩
    simp -implicitDefEqProofs only [act_Start_b0,go_sem,↓reduceIte,reduceCtorEq,Int.reduceLT,Int.reduceLE,Int.reduceToNat,Nat.reduceAdd,Nat.reduceMul,Nat.reduceLeDiff,Nat.reduceLT,Nat.reduceSub,Int.reduceNeg,Int.reduceEq,Int.reduceBEq,Int.reduceBNe,Nat.reduceEqDiff,Int.lt_irrefl]
    rw [Sat_bind]
    refine loop_up (I := fun i env h => env = [.undef,.undef,.ptr 1 0,.ptr 2 0,.undef,.undef,.undef,.undef,.undef,.undef,.undef,.undef,.undef,.undef,.undef,.undef,.undef,.undef,.undef,.undef,.undef,.undef,.undef,.undef,.undef,.undef,.undef,.undef,.undef,.undef,.undef,.undef,.undef,.undef,.undef,.undef,.undef,.undef,.undef,.undef,.undef,.undef,.int .i64 ((A.length : Nat) : Int),.int .i64 ((i : Nat) : Int),.undef,.undef,.undef,.undef,.undef,.undef,.undef,.undef] ∧ h = [.cells true [.list .s A,.list .s W,.list .s Pp,.list .s S,.list .s G,.bool x,.str y,.str z],.cells true [.int .i64 0,.list .o [],.list .o [],.list .o []],
      .cells true [.int .i64 ((S.length : Nat) : Int),.list .o ((List.replicate Pp.length (-1)).map fI),.list .o (List.replicate Pp.length [.bool false]),.list .o ((List.replicate i (-1)).map fI)]]) A.length ?_ ?_ (Nat.zero_le _) ⟨by simp -implicitDefEqProofs only [go_sem,↓reduceIte,reduceCtorEq,Int.reduceLT,Int.reduceLE,Int.reduceToNat,Nat.reduceAdd,Nat.reduceMul,Nat.reduceLeDiff,Nat.reduceLT,Nat.reduceSub,Int.reduceNeg,Int.reduceEq,Int.reduceBEq,Int.reduceBNe,Nat.reduceEqDiff],by simp -implicitDefEqProofs only [go_sem,↓reduceIte,reduceCtorEq,Int.reduceLT,Int.reduceLE,Int.reduceToNat,Nat.reduceAdd,Nat.reduceMul,Nat.reduceLeDiff,Nat.reduceLT,Nat.reduceSub,Int.reduceNeg,Int.reduceEq,Int.reduceBEq,Int.reduceBNe,Nat.reduceEqDiff]⟩
    · rintro i env h hi ⟨rfl,rfl⟩
      have hi' : (i : Int) < (A.length : Int) := by omega
      have hw := wrap_succ (i := i) (by omega)
      have ali := all_len (F := fI) (es := 1) (fun _ => rfl) (List.replicate i (-1))
      have r1 : (i + 1 + 512) * 8 ≤ 140737488355328 := by omega
      rw [rep_snocI]
      simp -implicitDefEqProofs only [act_Start_b0,act_Start_b1,go_sem,↓reduceIte,reduceCtorEq,Int.reduceLT,Int.reduceLE,Int.reduceToNat,Nat.reduceAdd,Nat.reduceMul,Nat.reduceLeDiff,Nat.reduceLT,Nat.reduceSub,Int.reduceNeg,Int.reduceEq,Int.reduceBEq,Int.reduceBNe,Nat.reduceEqDiff,hi',hw,ali,r1,List.length_replicate]
    · rintro env h ⟨rfl,rfl⟩
      have : T = [.int .i64 ((S.length : Nat) : Int),.list .s ((List.replicate Pp.length (-1)).map fI),.list .s (List.replicate Pp.length [.bool false]),.list .s ((List.replicate A.length (-1)).map fI)] := by
        rw [← hT]; simp only [fW,startW,List.map_replicate,fB]
      rw [this] at hP1
      simp -implicitDefEqProofs only [act_Start_b0,act_Start_b1,go_sem,↓reduceIte,reduceCtorEq,Int.reduceLT,Int.reduceLE,Int.reduceToNat,Nat.reduceAdd,Nat.reduceMul,Nat.reduceLeDiff,Nat.reduceLT,Nat.reduceSub,Int.reduceNeg,Int.reduceEq,Int.reduceBEq,Int.reduceBNe,Nat.reduceEqDiff,Int.lt_irrefl]
      exact hP1
end Vg.G3
