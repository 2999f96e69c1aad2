import Derived.Test.YtiidghpdgkfncaaVB1
namespace Vg.G2
open Go Lg
set_option linter.unusedSimpArgs false
set_option maxRecDepth 10000
set_option maxHeartbeats 1000000
attribute [local congr] bind_congr1
attribute [local go_sem] word_run_r0 word_run_r1 word_run_r2 word_run_r3 word_run_f word_run_v word_IsName_r0 word_IsName_r1 word_IsName_r2 word_IsName_r3 word_IsName_r4 word_IsName_r5 word_IsName_r6 word_IsName_r7 word_IsName_r8 word_IsName_r9 word_IsName_f word_IsName_v word_digits_r0 word_digits_r1 word_digits_r2 word_digits_r3 word_digits_r4 word_digits_r5 word_digits_r6 word_digits_r7 word_digits_r8 word_digits_r9 word_digits_f word_digits_v stringslite_Index_f stringslite_Index_v stringslite_Cut_r0 stringslite_Cut_r1 stringslite_Cut_r2 stringslite_Cut_r3 stringslite_Cut_r3_d stringslite_Cut_r4 stringslite_Cut_f stringslite_Cut_v strings_Cut_r0 strings_Cut_r1 strings_Cut_f strings_Cut_v word_IsNumber_r0 word_IsNumber_r1 word_IsNumber_r2 word_IsNumber_f word_IsNumber_v

/-- How many bytes of a class stand at the head. -/
def tw (cls : UInt8 → Bool) (r : List UInt8) : Nat := (r.takeWhile cls).length
theorem tw_le (cls : UInt8 → Bool) (r : List UInt8) : tw cls r ≤ r.length := (List.takeWhile_sublist _).length_le
theorem tw_cons (cls : UInt8 → Bool) (c : UInt8) (r : List UInt8) : tw cls (c :: r) = if cls c = true then tw cls r + 1 else 0 := by
  unfold tw; rw [List.takeWhile_cons]; split <;> simp
theorem run_spec {F : FuncId} {cls : UInt8 → Bool} (hF : ∀ (c : UInt8) (lo : Nat) (h : VHeap),callVL vp lo F [by8 c] h = some (.bool (cls c),h)) (s : List UInt8) (hs : s.length ≤ 4096) (a0 : Nat) (ha : a0 ≤ s.length) (lo : Nat) (h : VHeap) :
    callVL vp lo n_word_run [.str s,.int .i64 (a0 : Nat),.func F []] h = some (.int .i64 ((a0 + tw cls (s.drop a0) : Nat) : Int),h) := by
  refine call_valE (fn := word_run_v) rfl rfl rfl rfl rfl ?_ lo h
  generalize hT : a0 + tw cls (s.drop a0) = T
  obtain ⟨P,hP⟩ : ∃ P : VV → Prop,P = fun w : VV => w = .int .i64 (T : Int) := ⟨_,rfl⟩
  have hP1 : P (.int .i64 (T : Int)) := by subst hP; rfl
  have hP2 : (fun r : VV × VHeap => r.1 = .int .i64 (T : Int)) = fun r => P r.1 := by subst hP; rfl
  rw [hP2]
  clear hP hP2
  simp -implicitDefEqProofs only [go_sem,↓reduceIte,reduceCtorEq,Int.reduceLT,Int.reduceLE,Int.reduceToNat,Nat.reduceAdd,Nat.reduceMul,Nat.reduceLeDiff,Nat.reduceLT,Nat.reduceSub,Int.reduceNeg,Int.reduceEq,Int.reduceBEq,Int.reduceBNe,Nat.reduceEqDiff]
  rw [Sat_bind]
  refine loop_down (I := fun k env h' => h' = [] ∧ ∃ a : Nat,k = s.length - a ∧ a ≤ s.length ∧ a + tw cls (s.drop a) = T ∧ env = [.str s,.int .i64 ((a : Nat) : Int),.func F [],.undef,.undef,.undef,.undef,.undef,.undef,.undef,.undef,.undef,.undef,.undef,.undef,.undef,.undef,.undef,.undef,.undef,.undef]) ?_ (i := s.length - a0) ⟨rfl,a0,rfl,ha,hT,by simp -implicitDefEqProofs only [go_sem,↓reduceIte,reduceCtorEq,Int.reduceLT,Int.reduceLE,Int.reduceToNat,Nat.reduceAdd,Nat.reduceMul,Nat.reduceLeDiff,Nat.reduceLT,Nat.reduceSub,Int.reduceNeg,Int.reduceEq,Int.reduceBEq,Int.reduceBNe,Nat.reduceEqDiff]⟩
  rintro k env h' ⟨rfl,a,rfl,h2,h3,rfl⟩
  rcases Nat.lt_or_ge a s.length with hlt | hge
  · obtain ⟨c,hc⟩ := get_some hlt
    have hlt' : (a : Int) < (s.length : Int) := by omega
    have hw := wrap_succ (i := a) (by omega)
    have hbl := fun lo h => hF c lo h
    have hd := drop_get hc
    rw [hd,tw_cons] at h3
    by_cases hb : cls c = true
    · simp -implicitDefEqProofs only [word_run_b0,go_sem,↓reduceIte,reduceCtorEq,Int.reduceLT,Int.reduceLE,Int.reduceToNat,Nat.reduceAdd,Nat.reduceMul,Nat.reduceLeDiff,Nat.reduceLT,Nat.reduceSub,Int.reduceNeg,Int.reduceEq,Int.reduceBEq,Int.reduceBNe,Nat.reduceEqDiff,hlt',hc,hbl,hb,hw]
      exact ⟨s.length - (a + 1),by omega,a + 1,rfl,by omega,by simp only [hb,if_true] at h3; omega,rfl⟩
    · simp -implicitDefEqProofs only [word_run_b0,go_sem,↓reduceIte,reduceCtorEq,Int.reduceLT,Int.reduceLE,Int.reduceToNat,Nat.reduceAdd,Nat.reduceMul,Nat.reduceLeDiff,Nat.reduceLT,Nat.reduceSub,Int.reduceNeg,Int.reduceEq,Int.reduceBEq,Int.reduceBNe,Nat.reduceEqDiff,hlt',hc,hbl,hb]
      simp only [hb,if_false,Bool.false_eq_true] at h3
      obtain rfl : a = T := by omega
      exact hP1
  · have hlt' : ¬ (a : Int) < (s.length : Int) := by omega
    simp -implicitDefEqProofs only [word_run_b0,go_sem,↓reduceIte,reduceCtorEq,Int.reduceLT,Int.reduceLE,Int.reduceToNat,Nat.reduceAdd,Nat.reduceMul,Nat.reduceLeDiff,Nat.reduceLT,Nat.reduceSub,Int.reduceNeg,Int.reduceEq,Int.reduceBEq,Int.reduceBNe,Nat.reduceEqDiff,hlt']
    rw [List.drop_eq_nil_of_le hge] at h3
    obtain rfl : a = T := by simpa [tw] using h3
    exact hP1

def isNameL (t : List UInt8) : Bool := decide (t.length ≠ 0 ∧ t.length ≤ 12) && t.all isLetter
def digitsL (t : List UInt8) : Bool := decide (t.length ≠ 0 ∧ t.length ≤ 9) && t.all isDigit
theorem all_false {p : UInt8 → Bool} {t : List UInt8} {i : Nat} {c : UInt8} (hc : t[i]? = some c) (hb : ¬ p c = true) : t.all p = false := by
  rw [List.all_eq_false]; exact ⟨c,List.mem_of_getElem? hc,hb⟩

theorem IsName_spec (s : List UInt8) (hs : s.length ≤ 4096) (lo : Nat) (h : VHeap) : callVL vp lo n_word_IsName [.str s] h = some (.bool (isNameL s),h) := by
  refine call_valE (fn := word_IsName_v) rfl rfl rfl rfl rfl ?_ lo h
  generalize hT : isNameL s = T
  obtain ⟨P,hP⟩ : ∃ P : VV → Prop,P = fun w : VV => w = .bool T := ⟨_,rfl⟩
  have hP1 : P (.bool T) := by subst hP; rfl
  have hP2 : (fun r : VV × VHeap => r.1 = .bool T) = fun r => P r.1 := by subst hP; rfl
  rw [hP2]
  clear hP hP2
  by_cases h0 : (s.length : Int) = 0
  · simp -implicitDefEqProofs only [go_sem,↓reduceIte,reduceCtorEq,Int.reduceLT,Int.reduceLE,Int.reduceToNat,Nat.reduceAdd,Nat.reduceMul,Nat.reduceLeDiff,Nat.reduceLT,Nat.reduceSub,Int.reduceNeg,Int.reduceEq,Int.reduceBEq,Int.reduceBNe,Nat.reduceEqDiff,h0]
    obtain rfl : false = T := by rw [← hT,isNameL,decide_eq_false (by omega)]; rfl
    exact hP1
  by_cases h1 : (12 : Int) < (s.length : Int)
  · simp -implicitDefEqProofs only [go_sem,↓reduceIte,reduceCtorEq,Int.reduceLT,Int.reduceLE,Int.reduceToNat,Nat.reduceAdd,Nat.reduceMul,Nat.reduceLeDiff,Nat.reduceLT,Nat.reduceSub,Int.reduceNeg,Int.reduceEq,Int.reduceBEq,Int.reduceBNe,Nat.reduceEqDiff,h0,h1]
    obtain rfl : false = T := by rw [← hT,isNameL,decide_eq_false (by omega)]; rfl
    exact hP1
  simp -implicitDefEqProofs only [go_sem,↓reduceIte,reduceCtorEq,Int.reduceLT,Int.reduceLE,Int.reduceToNat,Nat.reduceAdd,Nat.reduceMul,Nat.reduceLeDiff,Nat.reduceLT,Nat.reduceSub,Int.reduceNeg,Int.reduceEq,Int.reduceBEq,Int.reduceBNe,Nat.reduceEqDiff,h0,h1]
  rw [isNameL,decide_eq_true (by omega),Bool.true_and] at hT
  rw [Sat_bind]
  refine loop_up (I := fun i env h' => h' = [] ∧ (∀ (j : Nat) (c : UInt8),j < i → s[j]? = some c → isLetter c = true) ∧ env = [.str s,.undef,.undef,.undef,.undef,.undef,.undef,.undef,.undef,.undef,.undef,.undef,.undef,.int .i64 ((s.length : Nat) : Int),.int .i64 ((i : Nat) : Int),.undef,.undef,.undef,.undef,.undef,.undef,.undef,.undef]) s.length ?_ ?_ (Nat.zero_le _) ⟨rfl,fun j c hj => absurd hj (Nat.not_lt_zero j),by simp -implicitDefEqProofs only [go_sem,↓reduceIte,reduceCtorEq,Int.reduceLT,Int.reduceLE,Int.reduceToNat,Nat.reduceAdd,Nat.reduceMul,Nat.reduceLeDiff,Nat.reduceLT,Nat.reduceSub,Int.reduceNeg,Int.reduceEq,Int.reduceBEq,Int.reduceBNe,Nat.reduceEqDiff]⟩
  · rintro i env h' hi ⟨rfl,hA,rfl⟩
    obtain ⟨c,hc⟩ := get_some hi
    have hlt' : (i : Int) < (s.length : Int) := by omega
    have hw := wrap_succ (i := i) (by omega)
    have hbl := fun lo h => letter_spec c lo h
    by_cases hb : isLetter c = true
    · simp -implicitDefEqProofs only [word_IsName_b0,go_sem,↓reduceIte,reduceCtorEq,Int.reduceLT,Int.reduceLE,Int.reduceToNat,Nat.reduceAdd,Nat.reduceMul,Nat.reduceLeDiff,Nat.reduceLT,Nat.reduceSub,Int.reduceNeg,Int.reduceEq,Int.reduceBEq,Int.reduceBNe,Nat.reduceEqDiff,hlt',hc,hbl,hb,hw]
      intro j d hj hd
      rcases Nat.lt_succ_iff_lt_or_eq.1 hj with hj | rfl
      · exact hA j d hj hd
      · rw [hc] at hd; cases hd; exact hb
    · simp -implicitDefEqProofs only [word_IsName_b0,go_sem,↓reduceIte,reduceCtorEq,Int.reduceLT,Int.reduceLE,Int.reduceToNat,Nat.reduceAdd,Nat.reduceMul,Nat.reduceLeDiff,Nat.reduceLT,Nat.reduceSub,Int.reduceNeg,Int.reduceEq,Int.reduceBEq,Int.reduceBNe,Nat.reduceEqDiff,hlt',hc,hbl,hb]
      obtain rfl : false = T := by rw [← hT,all_false hc hb]
      exact hP1
  · rintro env h' ⟨rfl,hA,rfl⟩
    simp -implicitDefEqProofs only [word_IsName_b0,go_sem,↓reduceIte,reduceCtorEq,Int.reduceLT,Int.reduceLE,Int.reduceToNat,Nat.reduceAdd,Nat.reduceMul,Nat.reduceLeDiff,Nat.reduceLT,Nat.reduceSub,Int.reduceNeg,Int.reduceEq,Int.reduceBEq,Int.reduceBNe,Nat.reduceEqDiff,Int.lt_irrefl]
    obtain rfl : true = T := by
      rw [← hT,eq_comm,List.all_eq_true]
      intro c hc
      obtain ⟨j,hj⟩ := List.mem_iff_getElem?.1 hc
      exact hA j c (lt_of_getElem? hj) hj
    exact hP1

theorem digits_spec (s : List UInt8) (hs : s.length ≤ 4096) (lo : Nat) (h : VHeap) : callVL vp lo n_word_digits [.str s] h = some (.bool (digitsL s),h) := by
  refine call_valE (fn := word_digits_v) rfl rfl rfl rfl rfl ?_ lo h
  generalize hT : digitsL s = T
  obtain ⟨P,hP⟩ : ∃ P : VV → Prop,P = fun w : VV => w = .bool T := ⟨_,rfl⟩
  have hP1 : P (.bool T) := by subst hP; rfl
  have hP2 : (fun r : VV × VHeap => r.1 = .bool T) = fun r => P r.1 := by subst hP; rfl
  rw [hP2]
  clear hP hP2
  by_cases h0 : (s.length : Int) = 0
  · simp -implicitDefEqProofs only [go_sem,↓reduceIte,reduceCtorEq,Int.reduceLT,Int.reduceLE,Int.reduceToNat,Nat.reduceAdd,Nat.reduceMul,Nat.reduceLeDiff,Nat.reduceLT,Nat.reduceSub,Int.reduceNeg,Int.reduceEq,Int.reduceBEq,Int.reduceBNe,Nat.reduceEqDiff,h0]
    obtain rfl : false = T := by rw [← hT,digitsL,decide_eq_false (by omega)]; rfl
    exact hP1
  by_cases h1 : (9 : Int) < (s.length : Int)
  · simp -implicitDefEqProofs only [go_sem,↓reduceIte,reduceCtorEq,Int.reduceLT,Int.reduceLE,Int.reduceToNat,Nat.reduceAdd,Nat.reduceMul,Nat.reduceLeDiff,Nat.reduceLT,Nat.reduceSub,Int.reduceNeg,Int.reduceEq,Int.reduceBEq,Int.reduceBNe,Nat.reduceEqDiff,h0,h1]
    obtain rfl : false = T := by rw [← hT,digitsL,decide_eq_false (by omega)]; rfl
    exact hP1
  simp -implicitDefEqProofs only [go_sem,↓reduceIte,reduceCtorEq,Int.reduceLT,Int.reduceLE,Int.reduceToNat,Nat.reduceAdd,Nat.reduceMul,Nat.reduceLeDiff,Nat.reduceLT,Nat.reduceSub,Int.reduceNeg,Int.reduceEq,Int.reduceBEq,Int.reduceBNe,Nat.reduceEqDiff,h0,h1]
  rw [digitsL,decide_eq_true (by omega),Bool.true_and] at hT
  rw [Sat_bind]
  refine loop_up (I := fun i env h' => h' = [] ∧ (∀ (j : Nat) (c : UInt8),j < i → s[j]? = some c → isDigit c = true) ∧ env = [.str s,.undef,.undef,.undef,.undef,.undef,.undef,.undef,.undef,.undef,.undef,.undef,.undef,.int .i64 ((s.length : Nat) : Int),.int .i64 ((i : Nat) : Int),.undef,.undef,.undef,.undef,.undef,.undef,.undef,.undef]) s.length ?_ ?_ (Nat.zero_le _) ⟨rfl,fun j c hj => absurd hj (Nat.not_lt_zero j),by simp -implicitDefEqProofs only [go_sem,↓reduceIte,reduceCtorEq,Int.reduceLT,Int.reduceLE,Int.reduceToNat,Nat.reduceAdd,Nat.reduceMul,Nat.reduceLeDiff,Nat.reduceLT,Nat.reduceSub,Int.reduceNeg,Int.reduceEq,Int.reduceBEq,Int.reduceBNe,Nat.reduceEqDiff]⟩
  · rintro i env h' hi ⟨rfl,hA,rfl⟩
    obtain ⟨c,hc⟩ := get_some hi
    have hlt' : (i : Int) < (s.length : Int) := by omega
    have hw := wrap_succ (i := i) (by omega)
    have hbl := fun lo h => digit_spec c lo h
    by_cases hb : isDigit c = true
    · simp -implicitDefEqProofs only [word_digits_b0,go_sem,↓reduceIte,reduceCtorEq,Int.reduceLT,Int.reduceLE,Int.reduceToNat,Nat.reduceAdd,Nat.reduceMul,Nat.reduceLeDiff,Nat.reduceLT,Nat.reduceSub,Int.reduceNeg,Int.reduceEq,Int.reduceBEq,Int.reduceBNe,Nat.reduceEqDiff,hlt',hc,hbl,hb,hw]
      intro j d hj hd
      rcases Nat.lt_succ_iff_lt_or_eq.1 hj with hj | rfl
      · exact hA j d hj hd
      · rw [hc] at hd; cases hd; exact hb
    · simp -implicitDefEqProofs only [word_digits_b0,go_sem,↓reduceIte,reduceCtorEq,Int.reduceLT,Int.reduceLE,Int.reduceToNat,Nat.reduceAdd,Nat.reduceMul,Nat.reduceLeDiff,Nat.reduceLT,Nat.reduceSub,Int.reduceNeg,Int.reduceEq,Int.reduceBEq,Int.reduceBNe,Nat.reduceEqDiff,hlt',hc,hbl,hb]
      obtain rfl : false = T := by rw [← hT,all_false hc hb]
      exact hP1
  · rintro env h' ⟨rfl,hA,rfl⟩
    simp -implicitDefEqProofs only [word_digits_b0,go_sem,↓reduceIte,reduceCtorEq,Int.reduceLT,Int.reduceLE,Int.reduceToNat,Nat.reduceAdd,Nat.reduceMul,Nat.reduceLeDiff,Nat.reduceLT,Nat.reduceSub,Int.reduceNeg,Int.reduceEq,Int.reduceBEq,Int.reduceBNe,Nat.reduceEqDiff,Int.lt_irrefl]
    obtain rfl : true = T := by
      rw [← hT,eq_comm,List.all_eq_true]
      intro c hc
      obtain ⟨j,hj⟩ := List.mem_iff_getElem?.1 hc
      exact hA j c (lt_of_getElem? hj) hj
    exact hP1

theorem Index_spec (s : List UInt8) (c : UInt8) (lo : Nat) (h : VHeap) : callVL vp lo n_stringslite_Index [.str s,.str [c]] h = some (.int .i64 (Go.Lib.indexByte s c),h) := by
  refine call_valE (fn := stringslite_Index_v) rfl rfl rfl rfl rfl ?_ lo h
  simp -implicitDefEqProofs only [go_sem,↓reduceIte,reduceCtorEq,Int.reduceLT,Int.reduceLE,Int.reduceToNat,Nat.reduceAdd,Nat.reduceMul,Nat.reduceLeDiff,Nat.reduceLT,Nat.reduceSub,Int.reduceNeg,Int.reduceEq,Int.reduceBEq,Int.reduceBNe,Nat.reduceEqDiff,ext2]
theorem indexByte_lt : ∀ (s : List UInt8) (c : UInt8),Go.Lib.indexByte s c < s.length
  | [],c => by simp [Go.Lib.indexByte]
  | b :: l,c => by
    have := indexByte_lt l c
    unfold Go.Lib.indexByte
    simp only [List.length_cons]
    split
    · omega
    · split <;> omega
theorem liteCut_spec (s : List UInt8) (hs : s.length ≤ 4096) (c : UInt8) (lo : Nat) (h : VHeap) : callVL vp lo n_stringslite_Cut [.str s,.str [c]] h =
    some (if 0 ≤ Go.Lib.indexByte s c then .tup [.str (s.take (Go.Lib.indexByte s c).toNat),.str (s.drop ((Go.Lib.indexByte s c).toNat + 1)),.bool true] else .tup [.str s,.str [],.bool false],h) := by
  refine call_valE (fn := stringslite_Cut_v) rfl rfl rfl rfl rfl ?_ lo h
  have hI := Index_spec s c
  have h2 := indexByte_lt s c
  generalize Go.Lib.indexByte s c = k at *
  by_cases hk : 0 ≤ k
  · obtain ⟨n,rfl⟩ := Int.eq_ofNat_of_zero_le hk
    have hw := wrap_succ (i := n) (by omega)
    have h3 : n ≤ s.length := by omega
    have h4 : n + 1 ≤ s.length := by omega
    simp -implicitDefEqProofs only [go_sem,↓reduceIte,reduceCtorEq,Int.reduceLT,Int.reduceLE,Int.reduceToNat,Nat.reduceAdd,Nat.reduceMul,Nat.reduceLeDiff,Nat.reduceLT,Nat.reduceSub,Int.reduceNeg,Int.reduceEq,Int.reduceBEq,Int.reduceBNe,Nat.reduceEqDiff,hI,hk,hw,h3,h4]
  · simp -implicitDefEqProofs only [go_sem,↓reduceIte,reduceCtorEq,Int.reduceLT,Int.reduceLE,Int.reduceToNat,Nat.reduceAdd,Nat.reduceMul,Nat.reduceLeDiff,Nat.reduceLT,Nat.reduceSub,Int.reduceNeg,Int.reduceEq,Int.reduceBEq,Int.reduceBNe,Nat.reduceEqDiff,hI,hk]
theorem Cut_spec (s : List UInt8) (hs : s.length ≤ 4096) (c : UInt8) (lo : Nat) (h : VHeap) : callVL vp lo n_strings_Cut [.str s,.str [c]] h =
    some (if 0 ≤ Go.Lib.indexByte s c then .tup [.str (s.take (Go.Lib.indexByte s c).toNat),.str (s.drop ((Go.Lib.indexByte s c).toNat + 1)),.bool true] else .tup [.str s,.str [],.bool false],h) := by
  refine call_valE (fn := strings_Cut_v) rfl rfl rfl rfl rfl ?_ lo h
  have hI := liteCut_spec s hs c
  by_cases hk : 0 ≤ Go.Lib.indexByte s c
  · simp only [hk,if_true] at hI
    simp -implicitDefEqProofs only [go_sem,↓reduceIte,reduceCtorEq,Int.reduceLT,Int.reduceLE,Int.reduceToNat,Nat.reduceAdd,Nat.reduceMul,Nat.reduceLeDiff,Nat.reduceLT,Nat.reduceSub,Int.reduceNeg,Int.reduceEq,Int.reduceBEq,Int.reduceBNe,Nat.reduceEqDiff,hI,hk]
  · simp only [hk,if_false] at hI
    simp -implicitDefEqProofs only [go_sem,↓reduceIte,reduceCtorEq,Int.reduceLT,Int.reduceLE,Int.reduceToNat,Nat.reduceAdd,Nat.reduceMul,Nat.reduceLeDiff,Nat.reduceLT,Nat.reduceSub,Int.reduceNeg,Int.reduceEq,Int.reduceBEq,Int.reduceBNe,Nat.reduceEqDiff,hI,hk]
def isNumL (t : List UInt8) : Bool := if 0 ≤ Go.Lib.indexByte t 47 then digitsL (t.take (Go.Lib.indexByte t 47).toNat) && digitsL (t.drop ((Go.Lib.indexByte t 47).toNat + 1)) else digitsL t
theorem IsNumber_spec (s : List UInt8) (hs : s.length ≤ 4096) (lo : Nat) (h : VHeap) : callVL vp lo n_word_IsNumber [.str s] h = some (.bool (isNumL s),h) := by
  refine call_valE (fn := word_IsNumber_v) rfl rfl rfl rfl rfl ?_ lo h
  have hI := Cut_spec s hs 47
  unfold isNumL
  by_cases hk : 0 ≤ Go.Lib.indexByte s 47
  · simp only [hk,if_true] at hI ⊢
    have hA := digits_spec (s.take (Go.Lib.indexByte s 47).toNat) (by rw [List.length_take]; omega)
    have hB := digits_spec (s.drop ((Go.Lib.indexByte s 47).toNat + 1)) (by rw [List.length_drop]; omega)
    generalize s.take (Go.Lib.indexByte s 47).toNat = A at *
    generalize s.drop ((Go.Lib.indexByte s 47).toNat + 1) = B at *
    cases hda : digitsL A <;> simp -implicitDefEqProofs only [go_sem,↓reduceIte,reduceCtorEq,Int.reduceLT,Int.reduceLE,Int.reduceToNat,Nat.reduceAdd,Nat.reduceMul,Nat.reduceLeDiff,Nat.reduceLT,Nat.reduceSub,Int.reduceNeg,Int.reduceEq,Int.reduceBEq,Int.reduceBNe,Nat.reduceEqDiff,hI,hA,hB,hda]
  · simp only [hk,if_false] at hI ⊢
    have hA := digits_spec s hs
    cases hda : digitsL s <;> simp -implicitDefEqProofs only [go_sem,↓reduceIte,reduceCtorEq,Int.reduceLT,Int.reduceLE,Int.reduceToNat,Nat.reduceAdd,Nat.reduceMul,Nat.reduceLeDiff,Nat.reduceLT,Nat.reduceSub,Int.reduceNeg,Int.reduceEq,Int.reduceBEq,Int.reduceBNe,Nat.reduceEqDiff,hI,hA,hda]
end Vg.G2
