import Derived.Test.YtpikplkdlbnffaaGreatDoorVG3
namespace Vg.W
open Go Lg Vg.G3
set_option linter.unusedSimpArgs false
set_option maxRecDepth 10000
set_option maxHeartbeats 1000000
attribute [local congr] bind_congr1
attribute [local go_sem] word_blank_r0 word_blank_r1 word_blank_f word_blank_v word_letter_r0 word_letter_r1 word_letter_f word_letter_v word_digit_r0 word_digit_r1 word_digit_f word_digit_v word_sign_r0 word_sign_r1 word_sign_f word_sign_v word_skip_r0 word_skip_r1 word_skip_r2 word_skip_r3 word_skip_r4 word_skip_r5 word_skip_r6 word_skip_r7 word_skip_r8 word_skip_f word_skip_v

abbrev by8 (c : UInt8) : VV := .int .u8 (c.toNat : Int)
def isBlank (c : UInt8) : Bool := decide ((c.toNat : Int) = 32) || decide ((c.toNat : Int) = 10)
def isLetter (c : UInt8) : Bool := decide (97 ≤ (c.toNat : Int)) && decide ((c.toNat : Int) ≤ 122)
def isDigit (c : UInt8) : Bool := decide (48 ≤ (c.toNat : Int)) && decide ((c.toNat : Int) ≤ 57)
def isSign (c : UInt8) : Bool := decide ((c.toNat : Int) = 123) || (decide ((c.toNat : Int) = 125) || decide ((c.toNat : Int) = 59))

theorem blank_spec (c : UInt8) (lo : Nat) (h : VHeap) : callVL vp lo n_word_blank [by8 c] h = some (.bool (isBlank c),h) := by
  refine call_valE (fn := word_blank_v) rfl rfl rfl rfl rfl ?_ lo h
  by_cases h1 : (c.toNat : Int) = 32
  · simp -implicitDefEqProofs only [go_sem,↓reduceIte,reduceCtorEq,Int.reduceLT,Int.reduceLE,Int.reduceToNat,Nat.reduceAdd,Nat.reduceMul,Nat.reduceLeDiff,Nat.reduceLT,Nat.reduceSub,Int.reduceNeg,Int.reduceEq,Int.reduceBEq,Int.reduceBNe,Nat.reduceEqDiff,h1,isBlank]
  · by_cases h2 : (c.toNat : Int) = 10 <;> simp -implicitDefEqProofs only [go_sem,↓reduceIte,reduceCtorEq,Int.reduceLT,Int.reduceLE,Int.reduceToNat,Nat.reduceAdd,Nat.reduceMul,Nat.reduceLeDiff,Nat.reduceLT,Nat.reduceSub,Int.reduceNeg,Int.reduceEq,Int.reduceBEq,Int.reduceBNe,Nat.reduceEqDiff,h1,h2,isBlank]
theorem letter_spec (c : UInt8) (lo : Nat) (h : VHeap) : callVL vp lo n_word_letter [by8 c] h = some (.bool (isLetter c),h) := by
  refine call_valE (fn := word_letter_v) rfl rfl rfl rfl rfl ?_ lo h
  by_cases h1 : 97 ≤ (c.toNat : Int)
  · by_cases h2 : (c.toNat : Int) ≤ 122 <;> simp -implicitDefEqProofs only [go_sem,↓reduceIte,reduceCtorEq,Int.reduceLT,Int.reduceLE,Int.reduceToNat,Nat.reduceAdd,Nat.reduceMul,Nat.reduceLeDiff,Nat.reduceLT,Nat.reduceSub,Int.reduceNeg,Int.reduceEq,Int.reduceBEq,Int.reduceBNe,Nat.reduceEqDiff,h1,h2,isLetter]
  · simp -implicitDefEqProofs only [go_sem,↓reduceIte,reduceCtorEq,Int.reduceLT,Int.reduceLE,Int.reduceToNat,Nat.reduceAdd,Nat.reduceMul,Nat.reduceLeDiff,Nat.reduceLT,Nat.reduceSub,Int.reduceNeg,Int.reduceEq,Int.reduceBEq,Int.reduceBNe,Nat.reduceEqDiff,h1,isLetter]
theorem digit_spec (c : UInt8) (lo : Nat) (h : VHeap) : callVL vp lo n_word_digit [by8 c] h = some (.bool (isDigit c),h) := by
  refine call_valE (fn := word_digit_v) rfl rfl rfl rfl rfl ?_ lo h
  by_cases h1 : 48 ≤ (c.toNat : Int)
  · by_cases h2 : (c.toNat : Int) ≤ 57 <;> simp -implicitDefEqProofs only [go_sem,↓reduceIte,reduceCtorEq,Int.reduceLT,Int.reduceLE,Int.reduceToNat,Nat.reduceAdd,Nat.reduceMul,Nat.reduceLeDiff,Nat.reduceLT,Nat.reduceSub,Int.reduceNeg,Int.reduceEq,Int.reduceBEq,Int.reduceBNe,Nat.reduceEqDiff,h1,h2,isDigit]
  · simp -implicitDefEqProofs only [go_sem,↓reduceIte,reduceCtorEq,Int.reduceLT,Int.reduceLE,Int.reduceToNat,Nat.reduceAdd,Nat.reduceMul,Nat.reduceLeDiff,Nat.reduceLT,Nat.reduceSub,Int.reduceNeg,Int.reduceEq,Int.reduceBEq,Int.reduceBNe,Nat.reduceEqDiff,h1,isDigit]
theorem sign_spec (c : UInt8) (lo : Nat) (h : VHeap) : callVL vp lo n_word_sign [by8 c] h = some (.bool (isSign c),h) := by
  refine call_valE (fn := word_sign_v) rfl rfl rfl rfl rfl ?_ lo h
  by_cases h1 : (c.toNat : Int) = 123
  · simp -implicitDefEqProofs only [go_sem,↓reduceIte,reduceCtorEq,Int.reduceLT,Int.reduceLE,Int.reduceToNat,Nat.reduceAdd,Nat.reduceMul,Nat.reduceLeDiff,Nat.reduceLT,Nat.reduceSub,Int.reduceNeg,Int.reduceEq,Int.reduceBEq,Int.reduceBNe,Nat.reduceEqDiff,h1,isSign]
  · by_cases h2 : (c.toNat : Int) = 125
    · simp -implicitDefEqProofs only [go_sem,↓reduceIte,reduceCtorEq,Int.reduceLT,Int.reduceLE,Int.reduceToNat,Nat.reduceAdd,Nat.reduceMul,Nat.reduceLeDiff,Nat.reduceLT,Nat.reduceSub,Int.reduceNeg,Int.reduceEq,Int.reduceBEq,Int.reduceBNe,Nat.reduceEqDiff,h1,h2,isSign]
    · by_cases h3 : (c.toNat : Int) = 59 <;> simp -implicitDefEqProofs only [go_sem,↓reduceIte,reduceCtorEq,Int.reduceLT,Int.reduceLE,Int.reduceToNat,Nat.reduceAdd,Nat.reduceMul,Nat.reduceLeDiff,Nat.reduceLT,Nat.reduceSub,Int.reduceNeg,Int.reduceEq,Int.reduceBEq,Int.reduceBNe,Nat.reduceEqDiff,h1,h2,h3,isSign]

/-- How many bytes are blanks and comments; the first: are we in a comment? -/
def sk : Bool → List UInt8 → Nat
  | _,[] => 0
  | true,c :: r => if (c.toNat : Int) = 10 then 1 + sk false r else 1 + sk true r
  | false,c :: r => if isBlank c = true then 1 + sk false r else if (c.toNat : Int) = 35 then 1 + sk true r else 0
theorem drop_get {s : List UInt8} {a : Nat} {c : UInt8} (h : s[a]? = some c) : s.drop a = c :: s.drop (a + 1) := by
  obtain ⟨h1,h2⟩ := List.getElem?_eq_some_iff.1 h
  rw [List.drop_eq_getElem_cons h1,h2]
theorem sk_le : ∀ (b : Bool) (r : List UInt8),sk b r ≤ r.length
  | _,[] => by simp [sk]
  | true,c :: r => by
    simp only [sk,List.length_cons]
    have h1 := sk_le false r; have h2 := sk_le true r
    split <;> omega
  | false,c :: r => by
    simp only [sk,List.length_cons]
    have h1 := sk_le false r; have h2 := sk_le true r
    split
    · omega
    · split <;> omega

theorem skip_in {lo : Nat} {s : List UInt8} {T a0 : Nat} {h : VHeap} (hs : s.length ≤ 4096) (ha : a0 ≤ s.length) (hT : a0 + sk true (s.drop a0) = T) (Q : Out × VEnv × VHeap → Prop)
    (hQ : ∀ env' a,keepFrom [0,1] 0 env' = [.str s,.int .i64 ((a : Nat) : Int),.undef,.undef,.undef,.undef,.undef,.undef,.undef,.undef,.undef,.undef,.undef,.undef,.undef,.undef,.undef,.undef,.undef,.undef,.undef,.undef,.undef,.undef,.undef,.undef,.undef,.undef,.undef,.undef,.undef,.undef,.undef,.undef,.undef] → a0 ≤ a → (a0 < s.length → s[a0]? ≠ some 10 → a0 < a) → a ≤ s.length → a + sk false (s.drop a) = T → Q (.exit 3,env',h)) :
    Sat (loopV (callVL vp) lo [0,1] word_skip_b1 [.str s,.int .i64 (a0 : Nat),.undef,.undef,.undef,.undef,.undef,.undef,.undef,.undef,.undef,.undef,.undef,.undef,.undef,.undef,.undef,.undef,.undef,.undef,.undef,.undef,.undef,.undef,.undef,.undef,.undef,.undef,.undef,.undef,.undef,.undef,.undef,.undef,.undef] h) Q := by
  refine loop_down (I := fun k env h' => h' = h ∧ ∃ a : Nat,k = s.length - a ∧ a0 ≤ a ∧ (a = a0 ∨ a0 < a) ∧ a ≤ s.length ∧ a + sk true (s.drop a) = T ∧ env = [.str s,.int .i64 ((a : Nat) : Int),.undef,.undef,.undef,.undef,.undef,.undef,.undef,.undef,.undef,.undef,.undef,.undef,.undef,.undef,.undef,.undef,.undef,.undef,.undef,.undef,.undef,.undef,.undef,.undef,.undef,.undef,.undef,.undef,.undef,.undef,.undef,.undef,.undef]) ?_ (i := s.length - a0) ⟨rfl,a0,rfl,Nat.le_refl _,.inl rfl,ha,hT,by simp -implicitDefEqProofs only [go_sem,↓reduceIte,reduceCtorEq,Int.reduceLT,Int.reduceLE,Int.reduceToNat,Nat.reduceAdd,Nat.reduceMul,Nat.reduceLeDiff,Nat.reduceLT,Nat.reduceSub,Int.reduceNeg,Int.reduceEq,Int.reduceBEq,Int.reduceBNe,Nat.reduceEqDiff]⟩
  rintro k env h' ⟨rfl,a,rfl,h1,h0,h2,h3,rfl⟩
  rcases Nat.lt_or_ge a s.length with hlt | hge
  · obtain ⟨c,hc⟩ := get_some hlt
    have hlt' : (a : Int) < (s.length : Int) := by omega
    have hw := wrap_succ (i := a) (by omega)
    by_cases h10 : (c.toNat : Int) = 10
    · simp -implicitDefEqProofs only [word_skip_b1,word_skip_b0,go_sem,↓reduceIte,reduceCtorEq,Int.reduceLT,Int.reduceLE,Int.reduceToNat,Nat.reduceAdd,Nat.reduceMul,Nat.reduceLeDiff,Nat.reduceLT,Nat.reduceSub,Int.reduceNeg,Int.reduceEq,Int.reduceBEq,Int.reduceBNe,Nat.reduceEqDiff,hlt',hc,h10]
      refine hQ _ a (by simp -implicitDefEqProofs only [go_sem,↓reduceIte,reduceCtorEq,Int.reduceLT,Int.reduceLE,Int.reduceToNat,Nat.reduceAdd,Nat.reduceMul,Nat.reduceLeDiff,Nat.reduceLT,Nat.reduceSub,Int.reduceNeg,Int.reduceEq,Int.reduceBEq,Int.reduceBNe,Nat.reduceEqDiff]) h1 ?_ h2 ?_
      · intro _ hne
        rcases h0 with rfl | h0
        · exfalso; refine hne ?_; rw [hc]; congr 1; exact UInt8.toNat_inj.1 (by simpa using (by omega : c.toNat = 10))
        · exact h0
      · rw [← h3,drop_get hc]; simp [sk,isBlank,h10]
    · simp -implicitDefEqProofs only [word_skip_b1,word_skip_b0,go_sem,↓reduceIte,reduceCtorEq,Int.reduceLT,Int.reduceLE,Int.reduceToNat,Nat.reduceAdd,Nat.reduceMul,Nat.reduceLeDiff,Nat.reduceLT,Nat.reduceSub,Int.reduceNeg,Int.reduceEq,Int.reduceBEq,Int.reduceBNe,Nat.reduceEqDiff,hlt',hc,h10,hw]
      exact ⟨s.length - (a + 1),by omega,a + 1,rfl,by omega,.inr (by omega),by omega,by rw [drop_get hc] at h3; simp only [sk,h10,if_false] at h3; omega,rfl⟩
  · have hlt' : ¬ (a : Int) < (s.length : Int) := by omega
    simp -implicitDefEqProofs only [word_skip_b1,word_skip_b0,go_sem,↓reduceIte,reduceCtorEq,Int.reduceLT,Int.reduceLE,Int.reduceToNat,Nat.reduceAdd,Nat.reduceMul,Nat.reduceLeDiff,Nat.reduceLT,Nat.reduceSub,Int.reduceNeg,Int.reduceEq,Int.reduceBEq,Int.reduceBNe,Nat.reduceEqDiff,hlt']
    refine hQ _ a (by simp -implicitDefEqProofs only [go_sem,↓reduceIte,reduceCtorEq,Int.reduceLT,Int.reduceLE,Int.reduceToNat,Nat.reduceAdd,Nat.reduceMul,Nat.reduceLeDiff,Nat.reduceLT,Nat.reduceSub,Int.reduceNeg,Int.reduceEq,Int.reduceBEq,Int.reduceBNe,Nat.reduceEqDiff]) h1 (fun h => by omega) h2 ?_
    rw [← h3,List.drop_eq_nil_of_le hge]; simp [sk]

theorem skip_spec (s : List UInt8) (hs : s.length ≤ 4096) (a0 : Nat) (ha : a0 ≤ s.length) (lo : Nat) (h : VHeap) : callVL vp lo n_word_skip [.str s,.int .i64 (a0 : Nat)] h = some (.int .i64 ((a0 + sk false (s.drop a0) : Nat) : Int),h) := by
  refine call_valE (fn := word_skip_v) rfl rfl rfl rfl rfl ?_ lo h
  generalize hT : a0 + sk false (s.drop a0) = T
  obtain ⟨P,hP⟩ : ∃ P : VV → Prop,P = fun w : VV => w = .int .i64 (T : Int) := ⟨_,rfl⟩
  have hP1 : P (.int .i64 (T : Int)) := by subst hP; rfl
  have hP2 : (fun r : VV × VHeap => r.1 = .int .i64 (T : Int)) = fun r => P r.1 := by subst hP; rfl
  rw [hP2]
  clear hP hP2
  simp -implicitDefEqProofs only [word_skip_b1,go_sem,↓reduceIte,reduceCtorEq,Int.reduceLT,Int.reduceLE,Int.reduceToNat,Nat.reduceAdd,Nat.reduceMul,Nat.reduceLeDiff,Nat.reduceLT,Nat.reduceSub,Int.reduceNeg,Int.reduceEq,Int.reduceBEq,Int.reduceBNe,Nat.reduceEqDiff]
  rw [Sat_bind]
  refine loop_down (I := fun k env h' => h' = [] ∧ ∃ a : Nat,k = s.length - a ∧ a ≤ s.length ∧ a + sk false (s.drop a) = T ∧ env = [.str s,.int .i64 ((a : Nat) : Int),.undef,.undef,.undef,.undef,.undef,.undef,.undef,.undef,.undef,.undef,.undef,.undef,.undef,.undef,.undef,.undef,.undef,.undef,.undef,.undef,.undef,.undef,.undef,.undef,.undef,.undef,.undef,.undef,.undef,.undef,.undef,.undef,.undef]) ?_ (i := s.length - a0) ⟨rfl,a0,rfl,ha,hT,by simp -implicitDefEqProofs only [go_sem,↓reduceIte,reduceCtorEq,Int.reduceLT,Int.reduceLE,Int.reduceToNat,Nat.reduceAdd,Nat.reduceMul,Nat.reduceLeDiff,Nat.reduceLT,Nat.reduceSub,Int.reduceNeg,Int.reduceEq,Int.reduceBEq,Int.reduceBNe,Nat.reduceEqDiff]⟩
  rintro k env h' ⟨rfl,a,rfl,h2,h3,rfl⟩
  rcases Nat.lt_or_ge a s.length with hlt | hge
  · obtain ⟨c,hc⟩ := get_some hlt
    have hlt' : (a : Int) < (s.length : Int) := by omega
    have hw := wrap_succ (i := a) (by omega)
    have hbl := fun lo h => blank_spec c lo h
    have hd := drop_get hc
    by_cases hb : isBlank c = true
    · simp -implicitDefEqProofs only [word_skip_b1,word_skip_b0,go_sem,↓reduceIte,reduceCtorEq,Int.reduceLT,Int.reduceLE,Int.reduceToNat,Nat.reduceAdd,Nat.reduceMul,Nat.reduceLeDiff,Nat.reduceLT,Nat.reduceSub,Int.reduceNeg,Int.reduceEq,Int.reduceBEq,Int.reduceBNe,Nat.reduceEqDiff,hlt',hc,hbl,hb,hw]
      exact ⟨s.length - (a + 1),by omega,a + 1,rfl,by omega,by rw [hd] at h3; simp only [sk,hb,if_true] at h3; omega,rfl⟩
    · by_cases h35 : (c.toNat : Int) = 35
      · have hbl2 := hbl
        simp only [by8,h35] at hbl2
        simp -implicitDefEqProofs only [word_skip_b0,go_sem,↓reduceIte,reduceCtorEq,Int.reduceLT,Int.reduceLE,Int.reduceToNat,Nat.reduceAdd,Nat.reduceMul,Nat.reduceLeDiff,Nat.reduceLT,Nat.reduceSub,Int.reduceNeg,Int.reduceEq,Int.reduceBEq,Int.reduceBNe,Nat.reduceEqDiff,hlt',hc,hbl2,hb,h35]
        rw [Sat_bind]
        refine skip_in (T := T) hs h2 ?_ _ ?_
        · rw [hd] at h3 ⊢; simp only [sk,hb,h35,if_false,if_true,Bool.false_eq_true] at h3 ⊢; simpa using h3
        · intro env' b he hab hne hbl' hbT
          simp -implicitDefEqProofs only [go_sem,↓reduceIte,reduceCtorEq,Int.reduceLT,Int.reduceLE,Int.reduceToNat,Nat.reduceAdd,Nat.reduceMul,Nat.reduceLeDiff,Nat.reduceLT,Nat.reduceSub,Int.reduceNeg,Int.reduceEq,Int.reduceBEq,Int.reduceBNe,Nat.reduceEqDiff,he]
          have : a < b := hne hlt (by rw [hc]; intro h; cases h; simp at h35)
          exact ⟨s.length - b,by omega,b,rfl,hbl',hbT,rfl⟩
      · simp -implicitDefEqProofs only [word_skip_b1,word_skip_b0,go_sem,↓reduceIte,reduceCtorEq,Int.reduceLT,Int.reduceLE,Int.reduceToNat,Nat.reduceAdd,Nat.reduceMul,Nat.reduceLeDiff,Nat.reduceLT,Nat.reduceSub,Int.reduceNeg,Int.reduceEq,Int.reduceBEq,Int.reduceBNe,Nat.reduceEqDiff,hlt',hc,hbl,hb,h35]
        rw [hd] at h3; simp only [sk,hb,h35,if_false,Bool.false_eq_true] at h3
        obtain rfl : a = T := by omega
        exact hP1
  · have hlt' : ¬ (a : Int) < (s.length : Int) := by omega
    simp -implicitDefEqProofs only [word_skip_b1,word_skip_b0,go_sem,↓reduceIte,reduceCtorEq,Int.reduceLT,Int.reduceLE,Int.reduceToNat,Nat.reduceAdd,Nat.reduceMul,Nat.reduceLeDiff,Nat.reduceLT,Nat.reduceSub,Int.reduceNeg,Int.reduceEq,Int.reduceBEq,Int.reduceBNe,Nat.reduceEqDiff,hlt']
    rw [List.drop_eq_nil_of_le hge] at h3
    obtain rfl : a = T := by simpa [sk] using h3
    exact hP1
end Vg.W
namespace Vg.W
open Go Lg Vg.G3
set_option linter.unusedSimpArgs false
set_option maxRecDepth 10000
set_option maxHeartbeats 1000000
attribute [local congr] bind_congr1
attribute [local go_sem] word_run_r0 word_run_r1 word_run_r2 word_run_r3 word_run_f word_run_v word_IsName_r0 word_IsName_r1 word_IsName_r2 word_IsName_r3 word_IsName_r4 word_IsName_r5 word_IsName_r6 word_IsName_r7 word_IsName_r8 word_IsName_r9 word_IsName_f word_IsName_v word_digits_r0 word_digits_r1 word_digits_r2 word_digits_r3 word_digits_r4 word_digits_r5 word_digits_r6 word_digits_r7 word_digits_r8 word_digits_r9 word_digits_f word_digits_v stringslite_Index_f stringslite_Index_v stringslite_Cut_r0 stringslite_Cut_r1 stringslite_Cut_r2 stringslite_Cut_r3 stringslite_Cut_r3_d stringslite_Cut_r4 stringslite_Cut_f stringslite_Cut_v strings_Cut_r0 strings_Cut_r1 strings_Cut_f strings_Cut_v word_IsNumber_r0 word_IsNumber_r1 word_IsNumber_r2 word_IsNumber_f word_IsNumber_v

/-- How many bytes of a class stand at the head. -/
def tw (cls : UInt8 → Bool) (r : List UInt8) : Nat := (r.takeWhile cls).length
theorem tw_le (cls : UInt8 → Bool) (r : List UInt8) : tw cls r ≤ r.length := (List.takeWhile_sublist _).length_le
theorem tw_cons (cls : UInt8 → Bool) (c : UInt8) (r : List UInt8) : tw cls (c :: r) = if cls c = true then tw cls r + 1 else 0 := by
  unfold tw; rw [List.takeWhile_cons]; split <;> simp
theorem run_spec {F : FuncId} {cls : UInt8 → Bool} (hF : ∀ (c : UInt8) (lo : Nat) (h : VHeap),callVL vp lo F [by8 c] h = some (.bool (cls c),h)) (s : List UInt8) (hs : s.length ≤ 4096) (a0 : Nat) (ha : a0 ≤ s.length) (lo : Nat) (h : VHeap) :
    callVL vp lo n_word_run [.str s,.int .i64 (a0 : Nat),.func F []] h = some (.int .i64 ((a0 + tw cls (s.drop a0) : Nat) : Int),h) := by
  refine call_valE (fn := word_run_v) rfl rfl rfl rfl rfl ?_ lo h
  generalize hT : a0 + tw cls (s.drop a0) = T
  obtain ⟨P,hP⟩ : ∃ P : VV → Prop,P = fun w : VV => w = .int .i64 (T : Int) := ⟨_,rfl⟩
  have hP1 : P (.int .i64 (T : Int)) := by subst hP; rfl
  have hP2 : (fun r : VV × VHeap => r.1 = .int .i64 (T : Int)) = fun r => P r.1 := by subst hP; rfl
  rw [hP2]
  clear hP hP2
  simp -implicitDefEqProofs only [go_sem,↓reduceIte,reduceCtorEq,Int.reduceLT,Int.reduceLE,Int.reduceToNat,Nat.reduceAdd,Nat.reduceMul,Nat.reduceLeDiff,Nat.reduceLT,Nat.reduceSub,Int.reduceNeg,Int.reduceEq,Int.reduceBEq,Int.reduceBNe,Nat.reduceEqDiff]
  rw [Sat_bind]
  refine loop_down (I := fun k env h' => h' = [] ∧ ∃ a : Nat,k = s.length - a ∧ a ≤ s.length ∧ a + tw cls (s.drop a) = T ∧ env = [.str s,.int .i64 ((a : Nat) : Int),.func F [],.undef,.undef,.undef,.undef,.undef,.undef,.undef,.undef,.undef,.undef,.undef,.undef,.undef,.undef,.undef,.undef,.undef,.undef]) ?_ (i := s.length - a0) ⟨rfl,a0,rfl,ha,hT,by simp -implicitDefEqProofs only [go_sem,↓reduceIte,reduceCtorEq,Int.reduceLT,Int.reduceLE,Int.reduceToNat,Nat.reduceAdd,Nat.reduceMul,Nat.reduceLeDiff,Nat.reduceLT,Nat.reduceSub,Int.reduceNeg,Int.reduceEq,Int.reduceBEq,Int.reduceBNe,Nat.reduceEqDiff]⟩
  rintro k env h' ⟨rfl,a,rfl,h2,h3,rfl⟩
  rcases Nat.lt_or_ge a s.length with hlt | hge
  · obtain ⟨c,hc⟩ := get_some hlt
    have hlt' : (a : Int) < (s.length : Int) := by omega
    have hw := wrap_succ (i := a) (by omega)
    have hbl := fun lo h => hF c lo h
    have hd := drop_get hc
    rw [hd,tw_cons] at h3
    by_cases hb : cls c = true
    · simp -implicitDefEqProofs only [word_run_b0,go_sem,↓reduceIte,reduceCtorEq,Int.reduceLT,Int.reduceLE,Int.reduceToNat,Nat.reduceAdd,Nat.reduceMul,Nat.reduceLeDiff,Nat.reduceLT,Nat.reduceSub,Int.reduceNeg,Int.reduceEq,Int.reduceBEq,Int.reduceBNe,Nat.reduceEqDiff,hlt',hc,hbl,hb,hw]
      exact ⟨s.length - (a + 1),by omega,a + 1,rfl,by omega,by simp only [hb,if_true] at h3; omega,rfl⟩
    · simp -implicitDefEqProofs only [word_run_b0,go_sem,↓reduceIte,reduceCtorEq,Int.reduceLT,Int.reduceLE,Int.reduceToNat,Nat.reduceAdd,Nat.reduceMul,Nat.reduceLeDiff,Nat.reduceLT,Nat.reduceSub,Int.reduceNeg,Int.reduceEq,Int.reduceBEq,Int.reduceBNe,Nat.reduceEqDiff,hlt',hc,hbl,hb]
      simp only [hb,if_false,Bool.false_eq_true] at h3
      obtain rfl : a = T := by omega
      exact hP1
  · have hlt' : ¬ (a : Int) < (s.length : Int) := by omega
    simp -implicitDefEqProofs only [word_run_b0,go_sem,↓reduceIte,reduceCtorEq,Int.reduceLT,Int.reduceLE,Int.reduceToNat,Nat.reduceAdd,Nat.reduceMul,Nat.reduceLeDiff,Nat.reduceLT,Nat.reduceSub,Int.reduceNeg,Int.reduceEq,Int.reduceBEq,Int.reduceBNe,Nat.reduceEqDiff,hlt']
    rw [List.drop_eq_nil_of_le hge] at h3
    obtain rfl : a = T := by simpa [tw] using h3
    exact hP1

def isNameL (t : List UInt8) : Bool := decide (t.length ≠ 0 ∧ t.length ≤ 12) && t.all isLetter
def digitsL (t : List UInt8) : Bool := decide (t.length ≠ 0 ∧ t.length ≤ 9) && t.all isDigit
theorem all_false {p : UInt8 → Bool} {t : List UInt8} {i : Nat} {c : UInt8} (hc : t[i]? = some c) (hb : ¬ p c = true) : t.all p = false := by
  rw [List.all_eq_false]; exact ⟨c,List.mem_of_getElem? hc,hb⟩

theorem IsName_spec (s : List UInt8) (hs : s.length ≤ 4096) (lo : Nat) (h : VHeap) : callVL vp lo n_word_IsName [.str s] h = some (.bool (isNameL s),h) := by
  refine call_valE (fn := word_IsName_v) rfl rfl rfl rfl rfl ?_ lo h
  generalize hT : isNameL s = T
  obtain ⟨P,hP⟩ : ∃ P : VV → Prop,P = fun w : VV => w = .bool T := ⟨_,rfl⟩
  have hP1 : P (.bool T) := by subst hP; rfl
  have hP2 : (fun r : VV × VHeap => r.1 = .bool T) = fun r => P r.1 := by subst hP; rfl
  rw [hP2]
  clear hP hP2
  by_cases h0 : (s.length : Int) = 0
  · simp -implicitDefEqProofs only [go_sem,↓reduceIte,reduceCtorEq,Int.reduceLT,Int.reduceLE,Int.reduceToNat,Nat.reduceAdd,Nat.reduceMul,Nat.reduceLeDiff,Nat.reduceLT,Nat.reduceSub,Int.reduceNeg,Int.reduceEq,Int.reduceBEq,Int.reduceBNe,Nat.reduceEqDiff,h0]
    obtain rfl : false = T := by rw [← hT,isNameL,decide_eq_false (by omega)]; rfl
    exact hP1
  by_cases h1 : (12 : Int) < (s.length : Int)
  · simp -implicitDefEqProofs only [go_sem,↓reduceIte,reduceCtorEq,Int.reduceLT,Int.reduceLE,Int.reduceToNat,Nat.reduceAdd,Nat.reduceMul,Nat.reduceLeDiff,Nat.reduceLT,Nat.reduceSub,Int.reduceNeg,Int.reduceEq,Int.reduceBEq,Int.reduceBNe,Nat.reduceEqDiff,h0,h1]
    obtain rfl : false = T := by rw [← hT,isNameL,decide_eq_false (by omega)]; rfl
    exact hP1
  simp -implicitDefEqProofs only [go_sem,↓reduceIte,reduceCtorEq,Int.reduceLT,Int.reduceLE,Int.reduceToNat,Nat.reduceAdd,Nat.reduceMul,Nat.reduceLeDiff,Nat.reduceLT,Nat.reduceSub,Int.reduceNeg,Int.reduceEq,Int.reduceBEq,Int.reduceBNe,Nat.reduceEqDiff,h0,h1]
  rw [isNameL,decide_eq_true (by omega),Bool.true_and] at hT
  rw [Sat_bind]
  refine loop_up (I := fun i env h' => h' = [] ∧ (∀ (j : Nat) (c : UInt8),j < i → s[j]? = some c → isLetter c = true) ∧ env = [.str s,.undef,.undef,.undef,.undef,.undef,.undef,.undef,.undef,.undef,.undef,.undef,.undef,.int .i64 ((s.length : Nat) : Int),.int .i64 ((i : Nat) : Int),.undef,.undef,.undef,.undef,.undef,.undef,.undef,.undef]) s.length ?_ ?_ (Nat.zero_le _) ⟨rfl,fun j c hj => absurd hj (Nat.not_lt_zero j),by simp -implicitDefEqProofs only [go_sem,↓reduceIte,reduceCtorEq,Int.reduceLT,Int.reduceLE,Int.reduceToNat,Nat.reduceAdd,Nat.reduceMul,Nat.reduceLeDiff,Nat.reduceLT,Nat.reduceSub,Int.reduceNeg,Int.reduceEq,Int.reduceBEq,Int.reduceBNe,Nat.reduceEqDiff]⟩
  · rintro i env h' hi ⟨rfl,hA,rfl⟩
    obtain ⟨c,hc⟩ := get_some hi
    have hlt' : (i : Int) < (s.length : Int) := by omega
    have hw := wrap_succ (i := i) (by omega)
    have hbl := fun lo h => letter_spec c lo h
    by_cases hb : isLetter c = true
    · simp -implicitDefEqProofs only [word_IsName_b0,go_sem,↓reduceIte,reduceCtorEq,Int.reduceLT,Int.reduceLE,Int.reduceToNat,Nat.reduceAdd,Nat.reduceMul,Nat.reduceLeDiff,Nat.reduceLT,Nat.reduceSub,Int.reduceNeg,Int.reduceEq,Int.reduceBEq,Int.reduceBNe,Nat.reduceEqDiff,hlt',hc,hbl,hb,hw]
      intro j d hj hd
      rcases Nat.lt_succ_iff_lt_or_eq.1 hj with hj | rfl
      · exact hA j d hj hd
      · rw [hc] at hd; cases hd; exact hb
    · simp -implicitDefEqProofs only [word_IsName_b0,go_sem,↓reduceIte,reduceCtorEq,Int.reduceLT,Int.reduceLE,Int.reduceToNat,Nat.reduceAdd,Nat.reduceMul,Nat.reduceLeDiff,Nat.reduceLT,Nat.reduceSub,Int.reduceNeg,Int.reduceEq,Int.reduceBEq,Int.reduceBNe,Nat.reduceEqDiff,hlt',hc,hbl,hb]
      obtain rfl : false = T := by rw [← hT,all_false hc hb]
      exact hP1
  · rintro env h' ⟨rfl,hA,rfl⟩
    simp -implicitDefEqProofs only [word_IsName_b0,go_sem,↓reduceIte,reduceCtorEq,Int.reduceLT,Int.reduceLE,Int.reduceToNat,Nat.reduceAdd,Nat.reduceMul,Nat.reduceLeDiff,Nat.reduceLT,Nat.reduceSub,Int.reduceNeg,Int.reduceEq,Int.reduceBEq,Int.reduceBNe,Nat.reduceEqDiff,Int.lt_irrefl]
    obtain rfl : true = T := by
      rw [← hT,eq_comm,List.all_eq_true]
      intro c hc
      obtain ⟨j,hj⟩ := List.mem_iff_getElem?.1 hc
      exact hA j c (lt_of_getElem? hj) hj
    exact hP1

theorem digits_spec (s : List UInt8) (hs : s.length ≤ 4096) (lo : Nat) (h : VHeap) : callVL vp lo n_word_digits [.str s] h = some (.bool (digitsL s),h) := by
  refine call_valE (fn := word_digits_v) rfl rfl rfl rfl rfl ?_ lo h
  generalize hT : digitsL s = T
  obtain ⟨P,hP⟩ : ∃ P : VV → Prop,P = fun w : VV => w = .bool T := ⟨_,rfl⟩
  have hP1 : P (.bool T) := by subst hP; rfl
  have hP2 : (fun r : VV × VHeap => r.1 = .bool T) = fun r => P r.1 := by subst hP; rfl
  rw [hP2]
  clear hP hP2
  by_cases h0 : (s.length : Int) = 0
  · simp -implicitDefEqProofs only [go_sem,↓reduceIte,reduceCtorEq,Int.reduceLT,Int.reduceLE,Int.reduceToNat,Nat.reduceAdd,Nat.reduceMul,Nat.reduceLeDiff,Nat.reduceLT,Nat.reduceSub,Int.reduceNeg,Int.reduceEq,Int.reduceBEq,Int.reduceBNe,Nat.reduceEqDiff,h0]
    obtain rfl : false = T := by rw [← hT,digitsL,decide_eq_false (by omega)]; rfl
    exact hP1
  by_cases h1 : (9 : Int) < (s.length : Int)
  · simp -implicitDefEqProofs only [go_sem,↓reduceIte,reduceCtorEq,Int.reduceLT,Int.reduceLE,Int.reduceToNat,Nat.reduceAdd,Nat.reduceMul,Nat.reduceLeDiff,Nat.reduceLT,Nat.reduceSub,Int.reduceNeg,Int.reduceEq,Int.reduceBEq,Int.reduceBNe,Nat.reduceEqDiff,h0,h1]
    obtain rfl : false = T := by rw [← hT,digitsL,decide_eq_false (by omega)]; rfl
    exact hP1
  simp -implicitDefEqProofs only [go_sem,↓reduceIte,reduceCtorEq,Int.reduceLT,Int.reduceLE,Int.reduceToNat,Nat.reduceAdd,Nat.reduceMul,Nat.reduceLeDiff,Nat.reduceLT,Nat.reduceSub,Int.reduceNeg,Int.reduceEq,Int.reduceBEq,Int.reduceBNe,Nat.reduceEqDiff,h0,h1]
  rw [digitsL,decide_eq_true (by omega),Bool.true_and] at hT
  rw [Sat_bind]
  refine loop_up (I := fun i env h' => h' = [] ∧ (∀ (j : Nat) (c : UInt8),j < i → s[j]? = some c → isDigit c = true) ∧ env = [.str s,.undef,.undef,.undef,.undef,.undef,.undef,.undef,.undef,.undef,.undef,.undef,.undef,.int .i64 ((s.length : Nat) : Int),.int .i64 ((i : Nat) : Int),.undef,.undef,.undef,.undef,.undef,.undef,.undef,.undef]) s.length ?_ ?_ (Nat.zero_le _) ⟨rfl,fun j c hj => absurd hj (Nat.not_lt_zero j),by simp -implicitDefEqProofs only [go_sem,↓reduceIte,reduceCtorEq,Int.reduceLT,Int.reduceLE,Int.reduceToNat,Nat.reduceAdd,Nat.reduceMul,Nat.reduceLeDiff,Nat.reduceLT,Nat.reduceSub,Int.reduceNeg,Int.reduceEq,Int.reduceBEq,Int.reduceBNe,Nat.reduceEqDiff]⟩
  · rintro i env h' hi ⟨rfl,hA,rfl⟩
    obtain ⟨c,hc⟩ := get_some hi
    have hlt' : (i : Int) < (s.length : Int) := by omega
    have hw := wrap_succ (i := i) (by omega)
    have hbl := fun lo h => digit_spec c lo h
    by_cases hb : isDigit c = true
    · simp -implicitDefEqProofs only [word_digits_b0,go_sem,↓reduceIte,reduceCtorEq,Int.reduceLT,Int.reduceLE,Int.reduceToNat,Nat.reduceAdd,Nat.reduceMul,Nat.reduceLeDiff,Nat.reduceLT,Nat.reduceSub,Int.reduceNeg,Int.reduceEq,Int.reduceBEq,Int.reduceBNe,Nat.reduceEqDiff,hlt',hc,hbl,hb,hw]
      intro j d hj hd
      rcases Nat.lt_succ_iff_lt_or_eq.1 hj with hj | rfl
      · exact hA j d hj hd
      · rw [hc] at hd; cases hd; exact hb
    · simp -implicitDefEqProofs only [word_digits_b0,go_sem,↓reduceIte,reduceCtorEq,Int.reduceLT,Int.reduceLE,Int.reduceToNat,Nat.reduceAdd,Nat.reduceMul,Nat.reduceLeDiff,Nat.reduceLT,Nat.reduceSub,Int.reduceNeg,Int.reduceEq,Int.reduceBEq,Int.reduceBNe,Nat.reduceEqDiff,hlt',hc,hbl,hb]
      obtain rfl : false = T := by rw [← hT,all_false hc hb]
      exact hP1
  · rintro env h' ⟨rfl,hA,rfl⟩
    simp -implicitDefEqProofs only [word_digits_b0,go_sem,↓reduceIte,reduceCtorEq,Int.reduceLT,Int.reduceLE,Int.reduceToNat,Nat.reduceAdd,Nat.reduceMul,Nat.reduceLeDiff,Nat.reduceLT,Nat.reduceSub,Int.reduceNeg,Int.reduceEq,Int.reduceBEq,Int.reduceBNe,Nat.reduceEqDiff,Int.lt_irrefl]
    obtain rfl : true = T := by
      rw [← hT,eq_comm,List.all_eq_true]
      intro c hc
      obtain ⟨j,hj⟩ := List.mem_iff_getElem?.1 hc
      exact hA j c (lt_of_getElem? hj) hj
    exact hP1

theorem Index_spec (s : List UInt8) (c : UInt8) (lo : Nat) (h : VHeap) : callVL vp lo n_stringslite_Index [.str s,.str [c]] h = some (.int .i64 (Go.Lib.indexByte s c),h) := by
  refine call_valE (fn := stringslite_Index_v) rfl rfl rfl rfl rfl ?_ lo h
  simp -implicitDefEqProofs only [go_sem,↓reduceIte,reduceCtorEq,Int.reduceLT,Int.reduceLE,Int.reduceToNat,Nat.reduceAdd,Nat.reduceMul,Nat.reduceLeDiff,Nat.reduceLT,Nat.reduceSub,Int.reduceNeg,Int.reduceEq,Int.reduceBEq,Int.reduceBNe,Nat.reduceEqDiff,ext2]
theorem indexByte_lt : ∀ (s : List UInt8) (c : UInt8),Go.Lib.indexByte s c < s.length
  | [],c => by simp [Go.Lib.indexByte]
  | b :: l,c => by
    have := indexByte_lt l c
    unfold Go.Lib.indexByte
    simp only [List.length_cons]
    split
    · omega
    · split <;> omega
theorem liteCut_spec (s : List UInt8) (hs : s.length ≤ 4096) (c : UInt8) (lo : Nat) (h : VHeap) : callVL vp lo n_stringslite_Cut [.str s,.str [c]] h =
    some (if 0 ≤ Go.Lib.indexByte s c then .tup [.str (s.take (Go.Lib.indexByte s c).toNat),.str (s.drop ((Go.Lib.indexByte s c).toNat + 1)),.bool true] else .tup [.str s,.str [],.bool false],h) := by
  refine call_valE (fn := stringslite_Cut_v) rfl rfl rfl rfl rfl ?_ lo h
  have hI := Index_spec s c
  have h2 := indexByte_lt s c
  generalize Go.Lib.indexByte s c = k at *
  by_cases hk : 0 ≤ k
  · obtain ⟨n,rfl⟩ := Int.eq_ofNat_of_zero_le hk
    have hw := wrap_succ (i := n) (by omega)
    have h3 : n ≤ s.length := by omega
    have h4 : n + 1 ≤ s.length := by omega
    simp -implicitDefEqProofs only [go_sem,↓reduceIte,reduceCtorEq,Int.reduceLT,Int.reduceLE,Int.reduceToNat,Nat.reduceAdd,Nat.reduceMul,Nat.reduceLeDiff,Nat.reduceLT,Nat.reduceSub,Int.reduceNeg,Int.reduceEq,Int.reduceBEq,Int.reduceBNe,Nat.reduceEqDiff,hI,hk,hw,h3,h4]
  · simp -implicitDefEqProofs only [go_sem,↓reduceIte,reduceCtorEq,Int.reduceLT,Int.reduceLE,Int.reduceToNat,Nat.reduceAdd,Nat.reduceMul,Nat.reduceLeDiff,Nat.reduceLT,Nat.reduceSub,Int.reduceNeg,Int.reduceEq,Int.reduceBEq,Int.reduceBNe,Nat.reduceEqDiff,hI,hk]
theorem Cut_spec (s : List UInt8) (hs : s.length ≤ 4096) (c : UInt8) (lo : Nat) (h : VHeap) : callVL vp lo n_strings_Cut [.str s,.str [c]] h =
    some (if 0 ≤ Go.Lib.indexByte s c then .tup [.str (s.take (Go.Lib.indexByte s c).toNat),.str (s.drop ((Go.Lib.indexByte s c).toNat + 1)),.bool true] else .tup [.str s,.str [],.bool false],h) := by
  refine call_valE (fn := strings_Cut_v) rfl rfl rfl rfl rfl ?_ lo h
  have hI := liteCut_spec s hs c
  by_cases hk : 0 ≤ Go.Lib.indexByte s c
  · simp only [hk,if_true] at hI
    simp -implicitDefEqProofs only [go_sem,↓reduceIte,reduceCtorEq,Int.reduceLT,Int.reduceLE,Int.reduceToNat,Nat.reduceAdd,Nat.reduceMul,Nat.reduceLeDiff,Nat.reduceLT,Nat.reduceSub,Int.reduceNeg,Int.reduceEq,Int.reduceBEq,Int.reduceBNe,Nat.reduceEqDiff,hI,hk]
  · simp only [hk,if_false] at hI
    simp -implicitDefEqProofs only [go_sem,↓reduceIte,reduceCtorEq,Int.reduceLT,Int.reduceLE,Int.reduceToNat,Nat.reduceAdd,Nat.reduceMul,Nat.reduceLeDiff,Nat.reduceLT,Nat.reduceSub,Int.reduceNeg,Int.reduceEq,Int.reduceBEq,Int.reduceBNe,Nat.reduceEqDiff,hI,hk]
def isNumL (t : List UInt8) : Bool := if 0 ≤ Go.Lib.indexByte t 47 then digitsL (t.take (Go.Lib.indexByte t 47).toNat) && digitsL (t.drop ((Go.Lib.indexByte t 47).toNat + 1)) else digitsL t
theorem IsNumber_spec (s : List UInt8) (hs : s.length ≤ 4096) (lo : Nat) (h : VHeap) : callVL vp lo n_word_IsNumber [.str s] h = some (.bool (isNumL s),h) := by
  refine call_valE (fn := word_IsNumber_v) rfl rfl rfl rfl rfl ?_ lo h
  have hI := Cut_spec s hs 47
  unfold isNumL
  by_cases hk : 0 ≤ Go.Lib.indexByte s 47
  · simp only [hk,if_true] at hI ⊢
    have hA := digits_spec (s.take (Go.Lib.indexByte s 47).toNat) (by rw [List.length_take]; omega)
    have hB := digits_spec (s.drop ((Go.Lib.indexByte s 47).toNat + 1)) (by rw [List.length_drop]; omega)
    generalize s.take (Go.Lib.indexByte s 47).toNat = A at *
    generalize s.drop ((Go.Lib.indexByte s 47).toNat + 1) = B at *
    cases hda : digitsL A <;> simp -implicitDefEqProofs only [go_sem,↓reduceIte,reduceCtorEq,Int.reduceLT,Int.reduceLE,Int.reduceToNat,Nat.reduceAdd,Nat.reduceMul,Nat.reduceLeDiff,Nat.reduceLT,Nat.reduceSub,Int.reduceNeg,Int.reduceEq,Int.reduceBEq,Int.reduceBNe,Nat.reduceEqDiff,hI,hA,hB,hda]
  · simp only [hk,if_false] at hI ⊢
    have hA := digits_spec s hs
    cases hda : digitsL s <;> simp -implicitDefEqProofs only [go_sem,↓reduceIte,reduceCtorEq,Int.reduceLT,Int.reduceLE,Int.reduceToNat,Nat.reduceAdd,Nat.reduceMul,Nat.reduceLeDiff,Nat.reduceLT,Nat.reduceSub,Int.reduceNeg,Int.reduceEq,Int.reduceBEq,Int.reduceBNe,Nat.reduceEqDiff,hI,hA,hda]
end Vg.W
namespace Vg.W
open Go Lg Vg.G3
set_option linter.unusedSimpArgs false
set_option maxRecDepth 10000
set_option maxHeartbeats 2000000
attribute [local congr] bind_congr1
attribute [local go_sem] word_one_r0 word_one_r1 word_one_r2 word_one_r3 word_one_r4 word_one_r5 word_one_r6 word_one_r7 word_one_r8 word_one_r9 word_one_r10 word_one_r11 word_one_r12 word_one_r13 word_one_r14 word_one_r15 word_one_r16 word_one_f word_one_v

/-- The length of the number at the head. -/
def numL (r : List UInt8) : Nat :=
  match r.drop (tw isDigit r) with
  | a :: b :: _ => if (a.toNat : Int) = 47 ∧ isDigit b = true then tw isDigit r + 1 + tw isDigit (r.drop (tw isDigit r + 1)) else tw isDigit r
  | _ => tw isDigit r
/-- The word at the head: kind,length,error. -/
def oneL (r : List UInt8) : Int × Nat × Int :=
  match r with
  | [] => (0,0,15)
  | c :: _ =>
    if isLetter c = true then if isNameL (r.take (tw isLetter r)) = true then (1,tw isLetter r,0) else (0,0,2)
    else if isDigit c = true then if isNumL (r.take (numL r)) = true then (2,numL r,0) else (0,0,2)
    else if isSign c = true then (3,1,0) else (0,0,15)
theorem oneL_cons (c : UInt8) (r : List UInt8) : oneL (c :: r) = if isLetter c = true then if isNameL ((c :: r).take (tw isLetter (c :: r))) = true then (1,tw isLetter (c :: r),0) else (0,0,2)
    else if isDigit c = true then if isNumL ((c :: r).take (numL (c :: r))) = true then (2,numL (c :: r),0) else (0,0,2)
    else if isSign c = true then (3,1,0) else (0,0,15) := rfl
theorem numL_le (r : List UInt8) : numL r ≤ r.length := by
  have h1 := tw_le isDigit r
  unfold numL
  split
  · rename_i a b t ht
    split
    · have h2 := tw_le isDigit (r.drop (tw isDigit r + 1))
      have h3 : (r.drop (tw isDigit r)).length = r.length - tw isDigit r := List.length_drop
      rw [ht] at h3
      simp only [List.length_cons] at h3
      rw [List.length_drop] at h2
      omega
    · exact h1
  · exact h1
def oneV2 (r : List UInt8) (at_ : Nat) : VV := if (oneL r).2.2 = 0 then .tup [.agg [.int .i64 (oneL r).1,.int .i64 (at_ : Nat),.str (r.take (oneL r).2.1)],.int .i64 0] else .tup [.agg [.int .i64 0,.int .i64 0,.str []],.int .i64 (oneL r).2.2]
theorem take_drop' (s : List UInt8) (a n : Nat) : (s.take (a + n)).drop a = (s.drop a).take n := by rw [List.drop_take]; congr 1; omega
theorem one_spec (s : List UInt8) (hs : s.length ≤ 4096) (a : Nat) (ha : a < s.length) (lo : Nat) (h : VHeap) : callVL vp lo n_word_one [.str s,.int .i64 (a : Nat)] h = some (oneV2 (s.drop a) a,h) := by
  refine call_valE (fn := word_one_v) rfl rfl rfl rfl rfl ?_ lo h
  obtain ⟨c,hc⟩ := get_some ha
  have hd := drop_get hc
  have hw := wrap_succ (i := a) (by omega)
  have hL := fun lo h => letter_spec c lo h
  have hD := fun lo h => digit_spec c lo h
  have hS := fun lo h => sign_spec c lo h
  have hrl := run_spec letter_spec s hs a (by omega)
  have hrd := run_spec digit_spec s hs a (by omega)
  have tl := tw_le isLetter (s.drop a)
  have td := tw_le isDigit (s.drop a)
  have tn := numL_le (s.drop a)
  rw [List.length_drop] at tl td tn
  have hle : ∀ n,n ≤ s.length - a → a + n ≤ s.length ∧ a ≤ a + n := fun n hn => by omega
  by_cases h1 : isLetter c = true
  · have hN := IsName_spec ((s.drop a).take (tw isLetter (s.drop a))) (by simp only [List.length_take,List.length_drop]; omega)
    by_cases h2 : isNameL ((s.drop a).take (tw isLetter (s.drop a))) = true
    · have e : oneL (s.drop a) = (1,tw isLetter (s.drop a),0) := by rw [hd,oneL_cons]; simp only [h1,if_true]; rw [hd] at h2; simp only [h2,if_true]
      unfold oneV2
      simp only [e,if_true]
      generalize tw isLetter (s.drop a) = n at *
      simp -implicitDefEqProofs only [go_sem,↓reduceIte,reduceCtorEq,Int.reduceLT,Int.reduceLE,Int.reduceToNat,Nat.reduceAdd,Nat.reduceMul,Nat.reduceLeDiff,Nat.reduceLT,Nat.reduceSub,Int.reduceNeg,Int.reduceEq,Int.reduceBEq,Int.reduceBNe,Nat.reduceEqDiff,hc,hL,h1,hrl,hw,(hle n tl).1,(hle n tl).2,take_drop',hN,h2]
    · have e : oneL (s.drop a) = (0,0,2) := by rw [hd,oneL_cons]; simp only [h1,if_true]; rw [hd] at h2; simp only [h2,if_false,Bool.false_eq_true]
      unfold oneV2
      simp only [e]
      generalize tw isLetter (s.drop a) = n at *
      simp -implicitDefEqProofs only [go_sem,↓reduceIte,reduceCtorEq,Int.reduceLT,Int.reduceLE,Int.reduceToNat,Nat.reduceAdd,Nat.reduceMul,Nat.reduceLeDiff,Nat.reduceLT,Nat.reduceSub,Int.reduceNeg,Int.reduceEq,Int.reduceBEq,Int.reduceBNe,Nat.reduceEqDiff,hc,hL,h1,hrl,hw,(hle n tl).1,(hle n tl).2,take_drop',hN,h2]
  by_cases h2 : isDigit c = true
  · have e : ∀ n,numL (s.drop a) = n → oneL (s.drop a) = if isNumL ((s.drop a).take n) = true then (2,n,0) else (0,0,2) := by
      rintro n rfl; rw [hd,oneL_cons]; simp only [h1,h2,if_true,if_false,Bool.false_eq_true]
    have h1' : isLetter c = false := by simpa using h1
    generalize hdt : tw isDigit (s.drop a) = d at *
    have hw2 := wrap_succ (i := a + d) (by omega)
    have hdd : (s.drop a).drop d = s.drop (a + d) := by rw [List.drop_drop]
    rcases Nat.lt_or_ge (a + d + 1) s.length with hlt | hge
    case inr =>
      have hn : numL (s.drop a) = d := by
        unfold numL
        rw [hdt,hdd]
        have h5 : (s.drop (a + d)).length ≤ 1 := by rw [List.length_drop]; omega
        split
        · rename_i h6; rw [h6] at h5; simp at h5
        · rfl
      have hN := IsNumber_spec ((s.drop a).take d) (by simp only [List.length_take,List.length_drop]; omega)
      have hge' : ¬ ((a + d + 1 : Nat) : Int) < (s.length : Int) := by omega
      unfold oneV2
      rw [e d hn]
      by_cases h3 : isNumL ((s.drop a).take d) = true <;> simp -implicitDefEqProofs only [go_sem,↓reduceIte,reduceCtorEq,Int.reduceLT,Int.reduceLE,Int.reduceToNat,Nat.reduceAdd,Nat.reduceMul,Nat.reduceLeDiff,Nat.reduceLT,Nat.reduceSub,Int.reduceNeg,Int.reduceEq,Int.reduceBEq,Int.reduceBNe,Nat.reduceEqDiff,hc,hL,hD,h1,h2,hrd,hw,hw2,hge',(hle d td).1,(hle d td).2,take_drop',hN,h3]
    have hlt' : ((a + d + 1 : Nat) : Int) < (s.length : Int) := by omega
    obtain ⟨x,hx⟩ := get_some (show a + d < s.length by omega)
    obtain ⟨y,hy⟩ := get_some hlt
    have hdx := drop_get hx
    have hdy := drop_get hy
    have hDy := fun lo h => digit_spec y lo h
    by_cases h47 : (x.toNat : Int) = 47
    case neg =>
      have hn : numL (s.drop a) = d := by
        unfold numL
        rw [hdt,hdd,hdx,hdy]
        simp only [h47,false_and,if_false]
      have hN := IsNumber_spec ((s.drop a).take d) (by simp only [List.length_take,List.length_drop]; omega)
      unfold oneV2
      rw [e d hn]
      by_cases h3 : isNumL ((s.drop a).take d) = true <;> simp -implicitDefEqProofs only [go_sem,↓reduceIte,reduceCtorEq,Int.reduceLT,Int.reduceLE,Int.reduceToNat,Nat.reduceAdd,Nat.reduceMul,Nat.reduceLeDiff,Nat.reduceLT,Nat.reduceSub,Int.reduceNeg,Int.reduceEq,Int.reduceBEq,Int.reduceBNe,Nat.reduceEqDiff,hc,hL,hD,h1,h2,hrd,hw,hw2,hlt',hx,h47,(hle d td).1,(hle d td).2,take_drop',hN,h3]
    by_cases h4 : isDigit y = true
    case neg =>
      have hn : numL (s.drop a) = d := by
        unfold numL
        rw [hdt,hdd,hdx,hdy]
        simp only [h4,and_false,if_false,Bool.false_eq_true]
      have hN := IsNumber_spec ((s.drop a).take d) (by simp only [List.length_take,List.length_drop]; omega)
      unfold oneV2
      rw [e d hn]
      by_cases h3 : isNumL ((s.drop a).take d) = true <;> simp -implicitDefEqProofs only [go_sem,↓reduceIte,reduceCtorEq,Int.reduceLT,Int.reduceLE,Int.reduceToNat,Nat.reduceAdd,Nat.reduceMul,Nat.reduceLeDiff,Nat.reduceLT,Nat.reduceSub,Int.reduceNeg,Int.reduceEq,Int.reduceBEq,Int.reduceBNe,Nat.reduceEqDiff,hc,hL,hD,h1,h2,hrd,hw,hw2,hlt',hx,hy,hDy,h47,h4,(hle d td).1,(hle d td).2,take_drop',hN,h3]
    have hn : numL (s.drop a) = d + 1 + tw isDigit (s.drop (a + d + 1)) := by
      unfold numL
      rw [hdt,hdd,hdx,hdy]
      simp only [h4,h47,and_self,if_true]
      rw [List.drop_drop,← hdy]; rfl
    have hrd2 := run_spec digit_spec s hs (a + d + 1) (by omega)
    have hea : a + d + 1 + tw isDigit (s.drop (a + d + 1)) = a + (d + 1 + tw isDigit (s.drop (a + d + 1))) := by omega
    rw [hea] at hrd2
    rw [hn] at tn
    generalize d + 1 + tw isDigit (s.drop (a + d + 1)) = n at *
    have hN := IsNumber_spec ((s.drop a).take n) (by simp only [List.length_take,List.length_drop]; omega)
    unfold oneV2
    rw [e n hn]
    by_cases h3 : isNumL ((s.drop a).take n) = true <;> simp -implicitDefEqProofs only [go_sem,↓reduceIte,reduceCtorEq,Int.reduceLT,Int.reduceLE,Int.reduceToNat,Nat.reduceAdd,Nat.reduceMul,Nat.reduceLeDiff,Nat.reduceLT,Nat.reduceSub,Int.reduceNeg,Int.reduceEq,Int.reduceBEq,Int.reduceBNe,Nat.reduceEqDiff,hc,hL,hD,h1,h2,hrd,hw,hw2,hlt',hx,hy,hDy,h47,h4,hrd2,(hle n tn).1,(hle n tn).2,take_drop',hN,h3]
  by_cases h3 : isSign c = true
  · have e : oneL (s.drop a) = (3,1,0) := by rw [hd,oneL_cons]; simp only [h1,h2,h3,if_true,if_false,Bool.false_eq_true]
    unfold oneV2
    simp only [e,if_true]
    have h4 : a + 1 ≤ s.length := ha
    have h5 : a ≤ a + 1 := by omega
    simp -implicitDefEqProofs only [go_sem,↓reduceIte,reduceCtorEq,Int.reduceLT,Int.reduceLE,Int.reduceToNat,Nat.reduceAdd,Nat.reduceMul,Nat.reduceLeDiff,Nat.reduceLT,Nat.reduceSub,Int.reduceNeg,Int.reduceEq,Int.reduceBEq,Int.reduceBNe,Nat.reduceEqDiff,hc,hL,hD,hS,h1,h2,h3,hw,h4,h5,take_drop']
  · have e : oneL (s.drop a) = (0,0,15) := by rw [hd,oneL_cons]; simp only [h1,h2,h3,if_true,if_false,Bool.false_eq_true]
    unfold oneV2
    simp only [e]
    simp -implicitDefEqProofs only [go_sem,↓reduceIte,reduceCtorEq,Int.reduceLT,Int.reduceLE,Int.reduceToNat,Nat.reduceAdd,Nat.reduceMul,Nat.reduceLeDiff,Nat.reduceLT,Nat.reduceSub,Int.reduceNeg,Int.reduceEq,Int.reduceBEq,Int.reduceBNe,Nat.reduceEqDiff,hc,hL,hD,hS,h1,h2,h3,hw]
end Vg.W
namespace Vg.W
open Go Lg Vg.G3
set_option linter.unusedSimpArgs false
set_option maxRecDepth 10000
set_option maxHeartbeats 1000000
attribute [local congr] bind_congr1
attribute [local go_sem] word_Read_r0 word_Read_r1 word_Read_r2 word_Read_r3 word_Read_r4 word_Read_r5 word_Read_r6 word_Read_r7 word_Read_r8 word_Read_r9 word_Read_r10 word_Read_r11 word_Read_f word_Read_v

structure Wd where
  kind : Int
  at_ : Nat
  text : List UInt8
  deriving DecidableEq
def fW (w : Wd) : List VV := [.int .i64 w.kind,.int .i64 (w.at_ : Nat),.str w.text]
theorem fW_len (w : Wd) : (fW w).length = 3 := rfl
theorem tw_pos {cls : UInt8 → Bool} {c : UInt8} {r : List UInt8} (h : cls c = true) : 1 ≤ tw cls (c :: r) := by rw [tw_cons,if_pos h]; omega
theorem numL_pos {c : UInt8} {r : List UInt8} (h : isDigit c = true) : 1 ≤ numL (c :: r) := by
  have := tw_pos (r := r) h
  unfold numL
  split
  · split <;> omega
  · exact this
theorem oneL_len {r : List UInt8} (h : (oneL r).2.2 = 0) : 1 ≤ (oneL r).2.1 ∧ (oneL r).2.1 ≤ r.length := by
  cases r with
  | nil => simp [oneL] at h
  | cons c r =>
    rw [oneL_cons] at h ⊢
    by_cases h1 : isLetter c = true
    · simp only [h1,if_true] at h ⊢
      split at h
      · rename_i h2; simp only [h2,if_true]; exact ⟨tw_pos h1,tw_le _ _⟩
      · simp at h
    · simp only [h1,if_false,Bool.false_eq_true] at h ⊢
      by_cases h2 : isDigit c = true
      · simp only [h2,if_true] at h ⊢
        split at h
        · rename_i h3; simp only [h3,if_true]; exact ⟨numL_pos h2,numL_le _⟩
        · simp at h
      · simp only [h2,if_false,Bool.false_eq_true] at h ⊢
        split at h
        · rename_i h3; simp only [h3,if_true]; exact ⟨Nat.le_refl _,by simp⟩
        · simp at h
/-- The words of a text,at most so many. -/
def rd : Nat → Nat → List UInt8 → Except Int (List Wd)
  | 0,_,_ => .ok []
  | n + 1,a,r => if r = [] then .ok [] else
    if (oneL r).2.2 = 0 then
      (rd n (a + (oneL r).2.1 + sk false (r.drop (oneL r).2.1)) ((r.drop (oneL r).2.1).drop (sk false (r.drop (oneL r).2.1)))).map (⟨(oneL r).1,a,r.take (oneL r).2.1⟩ :: ·)
    else .error (oneL r).2.2
def readF (s : List UInt8) : Except Int (List Wd) := if 4096 < s.length then .error 2 else rd s.length (sk false s) (s.drop (sk false s))
def readV : Except Int (List Wd) → VV
  | .ok ws => .tup [.list .s (ws.map fW),.int .i64 0]
  | .error e => .tup [.list .s [],.int .i64 e]
theorem err_map {α β : Type} {e : Int} (f : α → β) : (Except.error e : Except Int α).map f = .error e := rfl
theorem ok_map {α β : Type} {a : α} (f : α → β) : (Except.ok a : Except Int α).map f = .ok (f a) := rfl
theorem map_map {α β γ : Type} (x : Except Int α) (f : α → β) (g : β → γ) : (x.map f).map g = x.map fun a => g (f a) := by cases x <;> rfl

theorem Read_spec (s : List UInt8) (lo : Nat) (h : VHeap) : callVL vp lo n_word_Read [.str s] h = some (readV (readF s),h) := by
  refine call_valE (fn := word_Read_v) rfl rfl rfl rfl rfl ?_ lo h
  generalize hT : readF s = T
  obtain ⟨P,hP⟩ : ∃ P : VV → Prop,P = fun w : VV => w = readV T := ⟨_,rfl⟩
  have hP1 : P (readV T) := by subst hP; rfl
  have hP2 : (fun r : VV × VHeap => r.1 = readV T) = fun r => P r.1 := by subst hP; rfl
  rw [hP2]
  clear hP hP2
  unfold readF at hT
  by_cases hs : 4096 < s.length
  · rw [if_pos hs] at hT
    have hs' : (4096 : Int) < (s.length : Int) := by omega
    subst hT
    simp -implicitDefEqProofs only [go_sem,↓reduceIte,reduceCtorEq,Int.reduceLT,Int.reduceLE,Int.reduceToNat,Nat.reduceAdd,Nat.reduceMul,Nat.reduceLeDiff,Nat.reduceLT,Nat.reduceSub,Int.reduceNeg,Int.reduceEq,Int.reduceBEq,Int.reduceBNe,Nat.reduceEqDiff,hs']
    exact hP1
  rw [if_neg hs] at hT
  have hs' : ¬ (4096 : Int) < (s.length : Int) := by omega
  have hsk := skip_spec s (by omega) 0 (by omega)
  have hsl := sk_le false s
  simp only [List.drop_zero,Nat.zero_add,cast_zero] at hsk
  generalize sk false s = a0 at *
  simp -implicitDefEqProofs only [go_sem,↓reduceIte,reduceCtorEq,Int.reduceLT,Int.reduceLE,Int.reduceToNat,Nat.reduceAdd,Nat.reduceMul,Nat.reduceLeDiff,Nat.reduceLT,Nat.reduceSub,Int.reduceNeg,Int.reduceEq,Int.reduceBEq,Int.reduceBNe,Nat.reduceEqDiff,hs',hsk]
  rw [Sat_bind]
  refine loop_down (I := fun k env h' => h' = [] ∧ ∃ (a : Nat) (acc : List Wd),k = s.length - a ∧ a ≤ s.length ∧ acc.length ≤ a ∧ (∃ n,s.length - a ≤ n ∧ (rd n a (s.drop a)).map (acc ++ ·) = T) ∧ env = [.str s,.undef,.undef,.undef,.list .o (acc.map fW),.int .i64 ((a : Nat) : Int),.undef,.undef,.undef,.undef,.undef,.undef,.undef,.undef,.undef,.undef,.undef,.undef,.undef,.undef,.undef,.undef,.undef,.undef,.undef,.undef,.undef,.undef,.undef,.undef,.undef,.undef,.undef,.undef,.undef,.undef,.undef,.undef]) ?_ (i := s.length - a0) ⟨rfl,a0,[],rfl,hsl,Nat.zero_le _,⟨s.length,by omega,by rw [← hT]; cases rd s.length a0 (s.drop a0) <;> rfl⟩,by simp -implicitDefEqProofs only [go_sem,↓reduceIte,reduceCtorEq,Int.reduceLT,Int.reduceLE,Int.reduceToNat,Nat.reduceAdd,Nat.reduceMul,Nat.reduceLeDiff,Nat.reduceLT,Nat.reduceSub,Int.reduceNeg,Int.reduceEq,Int.reduceBEq,Int.reduceBNe,Nat.reduceEqDiff]⟩
  rintro k env h' ⟨rfl,a,acc,rfl,h2,hac,⟨n,hn,hR⟩,rfl⟩
  rcases Nat.lt_or_ge a s.length with hlt | hge
  · have hlt' : (a : Int) < (s.length : Int) := by omega
    have hne : s.drop a ≠ [] := fun h => by have := congrArg List.length h; simp at this; omega
    have ho := one_spec s (by omega) a hlt
    obtain ⟨m,rfl⟩ : ∃ m,n = m + 1 := ⟨n - 1,by omega⟩
    simp only [rd,hne,if_false] at hR
    unfold oneV2 at ho
    by_cases he : (oneL (s.drop a)).2.2 = 0
    · obtain ⟨l1,l2⟩ := oneL_len he
      simp only [he,if_true] at ho hR
      generalize (oneL (s.drop a)).2.1 = len at *
      generalize (oneL (s.drop a)).1 = kd at *
      rw [List.length_drop] at l2
      have hle : ((s.drop a).take len).length = len := by rw [List.length_take,List.length_drop]; omega
      have hw : IntKind.i64.wrap ((a : Int) + (len : Int)) = ((a + len : Nat) : Int) := by rw [wrap_id (by omega) (by omega)]; rfl
      have hsk2 := skip_spec s (by omega) (a + len) (by omega)
      have hal := all_len fW_len acc
      have hr : (acc.length + 1 + 512) * 32 ≤ 140737488355328 := by omega
      simp -implicitDefEqProofs only [word_Read_b0,go_sem,↓reduceIte,reduceCtorEq,Int.reduceLT,Int.reduceLE,Int.reduceToNat,Nat.reduceAdd,Nat.reduceMul,Nat.reduceLeDiff,Nat.reduceLT,Nat.reduceSub,Int.reduceNeg,Int.reduceEq,Int.reduceBEq,Int.reduceBNe,Nat.reduceEqDiff,hlt',ho,hal,hr,hle,hw,hsk2]
      rw [List.drop_drop,List.drop_drop,map_map] at hR
      have hsl2 := sk_le false (s.drop (a + len))
      rw [List.length_drop] at hsl2
      refine ⟨s.length - (a + len + sk false (s.drop (a + len))),by omega,a + len + sk false (s.drop (a + len)),acc ++ [⟨kd,a,(s.drop a).take len⟩],rfl,by omega,by simp; omega,⟨m,by omega,?_⟩,?_⟩
      · rw [← hR]; congr 1; funext x; simp
      · simp only [List.map_append,List.map_cons,List.map_nil,fW]
    · simp only [he,if_false,err_map] at ho hR
      subst hR
      simp -implicitDefEqProofs only [word_Read_b0,go_sem,↓reduceIte,reduceCtorEq,Int.reduceLT,Int.reduceLE,Int.reduceToNat,Nat.reduceAdd,Nat.reduceMul,Nat.reduceLeDiff,Nat.reduceLT,Nat.reduceSub,Int.reduceNeg,Int.reduceEq,Int.reduceBEq,Int.reduceBNe,Nat.reduceEqDiff,hlt',ho,he]
      exact hP1
  · have hlt' : ¬ (a : Int) < (s.length : Int) := by omega
    simp -implicitDefEqProofs only [word_Read_b0,go_sem,↓reduceIte,reduceCtorEq,Int.reduceLT,Int.reduceLE,Int.reduceToNat,Nat.reduceAdd,Nat.reduceMul,Nat.reduceLeDiff,Nat.reduceLT,Nat.reduceSub,Int.reduceNeg,Int.reduceEq,Int.reduceBEq,Int.reduceBNe,Nat.reduceEqDiff,hlt']
    have : T = .ok acc := by
      rw [← hR,List.drop_eq_nil_of_le hge]
      cases n <;> simp [rd,ok_map]
    subst this
    exact hP1
end Vg.W
