import Derived.Test.YtiidghpdgkfncaaVG2
namespace Vg.G2
open Go Lg
set_option linter.unusedSimpArgs false
set_option maxRecDepth 10000
set_option maxHeartbeats 1000000
attribute [local congr] bind_congr1
attribute [local go_sem] word_blank_r0 word_blank_r1 word_blank_f word_blank_v word_letter_r0 word_letter_r1 word_letter_f word_letter_v word_digit_r0 word_digit_r1 word_digit_f word_digit_v word_sign_r0 word_sign_r1 word_sign_f word_sign_v word_skip_r0 word_skip_r1 word_skip_r2 word_skip_r3 word_skip_r4 word_skip_r5 word_skip_r6 word_skip_r7 word_skip_r8 word_skip_f word_skip_v

abbrev by8 (c : UInt8) : VV := .int .u8 (c.toNat : Int)
def isBlank (c : UInt8) : Bool := decide ((c.toNat : Int) = 32) || decide ((c.toNat : Int) = 10)
def isLetter (c : UInt8) : Bool := decide (97 ≤ (c.toNat : Int)) && decide ((c.toNat : Int) ≤ 122)
def isDigit (c : UInt8) : Bool := decide (48 ≤ (c.toNat : Int)) && decide ((c.toNat : Int) ≤ 57)
def isSign (c : UInt8) : Bool := decide ((c.toNat : Int) = 123) || (decide ((c.toNat : Int) = 125) || decide ((c.toNat : Int) = 59))

theorem blank_spec (c : UInt8) (lo : Nat) (h : VHeap) : callVL vp lo n_word_blank [by8 c] h = some (.bool (isBlank c),h) := by
  refine call_valE (fn := word_blank_v) rfl rfl rfl rfl rfl ?_ lo h
  by_cases h1 : (c.toNat : Int) = 32
  · simp -implicitDefEqProofs only [go_sem,↓reduceIte,reduceCtorEq,Int.reduceLT,Int.reduceLE,Int.reduceToNat,Nat.reduceAdd,Nat.reduceMul,Nat.reduceLeDiff,Nat.reduceLT,Nat.reduceSub,Int.reduceNeg,Int.reduceEq,Int.reduceBEq,Int.reduceBNe,Nat.reduceEqDiff,h1,isBlank]
  · by_cases h2 : (c.toNat : Int) = 10 <;> simp -implicitDefEqProofs only [go_sem,↓reduceIte,reduceCtorEq,Int.reduceLT,Int.reduceLE,Int.reduceToNat,Nat.reduceAdd,Nat.reduceMul,Nat.reduceLeDiff,Nat.reduceLT,Nat.reduceSub,Int.reduceNeg,Int.reduceEq,Int.reduceBEq,Int.reduceBNe,Nat.reduceEqDiff,h1,h2,isBlank]
theorem letter_spec (c : UInt8) (lo : Nat) (h : VHeap) : callVL vp lo n_word_letter [by8 c] h = some (.bool (isLetter c),h) := by
  refine call_valE (fn := word_letter_v) rfl rfl rfl rfl rfl ?_ lo h
  by_cases h1 : 97 ≤ (c.toNat : Int)
  · by_cases h2 : (c.toNat : Int) ≤ 122 <;> simp -implicitDefEqProofs only [go_sem,↓reduceIte,reduceCtorEq,Int.reduceLT,Int.reduceLE,Int.reduceToNat,Nat.reduceAdd,Nat.reduceMul,Nat.reduceLeDiff,Nat.reduceLT,Nat.reduceSub,Int.reduceNeg,Int.reduceEq,Int.reduceBEq,Int.reduceBNe,Nat.reduceEqDiff,h1,h2,isLetter]
  · simp -implicitDefEqProofs only [go_sem,↓reduceIte,reduceCtorEq,Int.reduceLT,Int.reduceLE,Int.reduceToNat,Nat.reduceAdd,Nat.reduceMul,Nat.reduceLeDiff,Nat.reduceLT,Nat.reduceSub,Int.reduceNeg,Int.reduceEq,Int.reduceBEq,Int.reduceBNe,Nat.reduceEqDiff,h1,isLetter]
theorem digit_spec (c : UInt8) (lo : Nat) (h : VHeap) : callVL vp lo n_word_digit [by8 c] h = some (.bool (isDigit c),h) := by
  refine call_valE (fn := word_digit_v) rfl rfl rfl rfl rfl ?_ lo h
  by_cases h1 : 48 ≤ (c.toNat : Int)
  · by_cases h2 : (c.toNat : Int) ≤ 57 <;> simp -implicitDefEqProofs only [go_sem,↓reduceIte,reduceCtorEq,Int.reduceLT,Int.reduceLE,Int.reduceToNat,Nat.reduceAdd,Nat.reduceMul,Nat.reduceLeDiff,Nat.reduceLT,Nat.reduceSub,Int.reduceNeg,Int.reduceEq,Int.reduceBEq,Int.reduceBNe,Nat.reduceEqDiff,h1,h2,isDigit]
  · simp -implicitDefEqProofs only [go_sem,↓reduceIte,reduceCtorEq,Int.reduceLT,Int.reduceLE,Int.reduceToNat,Nat.reduceAdd,Nat.reduceMul,Nat.reduceLeDiff,Nat.reduceLT,Nat.reduceSub,Int.reduceNeg,Int.reduceEq,Int.reduceBEq,Int.reduceBNe,Nat.reduceEqDiff,h1,isDigit]
theorem sign_spec (c : UInt8) (lo : Nat) (h : VHeap) : callVL vp lo n_word_sign [by8 c] h = some (.bool (isSign c),h) := by
  refine call_valE (fn := word_sign_v) rfl rfl rfl rfl rfl ?_ lo h
  by_cases h1 : (c.toNat : Int) = 123
  · simp -implicitDefEqProofs only [go_sem,↓reduceIte,reduceCtorEq,Int.reduceLT,Int.reduceLE,Int.reduceToNat,Nat.reduceAdd,Nat.reduceMul,Nat.reduceLeDiff,Nat.reduceLT,Nat.reduceSub,Int.reduceNeg,Int.reduceEq,Int.reduceBEq,Int.reduceBNe,Nat.reduceEqDiff,h1,isSign]
  · by_cases h2 : (c.toNat : Int) = 125
    · simp -implicitDefEqProofs only [go_sem,↓reduceIte,reduceCtorEq,Int.reduceLT,Int.reduceLE,Int.reduceToNat,Nat.reduceAdd,Nat.reduceMul,Nat.reduceLeDiff,Nat.reduceLT,Nat.reduceSub,Int.reduceNeg,Int.reduceEq,Int.reduceBEq,Int.reduceBNe,Nat.reduceEqDiff,h1,h2,isSign]
    · by_cases h3 : (c.toNat : Int) = 59 <;> simp -implicitDefEqProofs only [go_sem,↓reduceIte,reduceCtorEq,Int.reduceLT,Int.reduceLE,Int.reduceToNat,Nat.reduceAdd,Nat.reduceMul,Nat.reduceLeDiff,Nat.reduceLT,Nat.reduceSub,Int.reduceNeg,Int.reduceEq,Int.reduceBEq,Int.reduceBNe,Nat.reduceEqDiff,h1,h2,h3,isSign]

/-- How many bytes are blanks and comments; the first: are we in a comment? -/
def sk : Bool → List UInt8 → Nat
  | _,[] => 0
  | true,c :: r => if (c.toNat : Int) = 10 then 1 + sk false r else 1 + sk true r
  | false,c :: r => if isBlank c = true then 1 + sk false r else if (c.toNat : Int) = 35 then 1 + sk true r else 0
theorem drop_get {s : List UInt8} {a : Nat} {c : UInt8} (h : s[a]? = some c) : s.drop a = c :: s.drop (a + 1) := by
  obtain ⟨h1,h2⟩ := List.getElem?_eq_some_iff.1 h
  rw [List.drop_eq_getElem_cons h1,h2]
theorem sk_le : ∀ (b : Bool) (r : List UInt8),sk b r ≤ r.length
  | _,[] => by simp [sk]
  | true,c :: r => by
    simp only [sk,List.length_cons]
    have h1 := sk_le false r; have h2 := sk_le true r
    split <;> omega
  | false,c :: r => by
    simp only [sk,List.length_cons]
    have h1 := sk_le false r; have h2 := sk_le true r
    split
    · omega
    · split <;> omega

theorem skip_in {lo : Nat} {s : List UInt8} {T a0 : Nat} {h : VHeap} (hs : s.length ≤ 4096) (ha : a0 ≤ s.length) (hT : a0 + sk true (s.drop a0) = T) (Q : Out × VEnv × VHeap → Prop)
    (hQ : ∀ env' a,keepFrom [0,1] 0 env' = [.str s,.int .i64 ((a : Nat) : Int),.undef,.undef,.undef,.undef,.undef,.undef,.undef,.undef,.undef,.undef,.undef,.undef,.undef,.undef,.undef,.undef,.undef,.undef,.undef,.undef,.undef,.undef,.undef,.undef,.undef,.undef,.undef,.undef,.undef,.undef,.undef,.undef,.undef] → a0 ≤ a → (a0 < s.length → s[a0]? ≠ some 10 → a0 < a) → a ≤ s.length → a + sk false (s.drop a) = T → Q (.exit 3,env',h)) :
    Sat (loopV (callVL vp) lo [0,1] word_skip_b1 [.str s,.int .i64 (a0 : Nat),.undef,.undef,.undef,.undef,.undef,.undef,.undef,.undef,.undef,.undef,.undef,.undef,.undef,.undef,.undef,.undef,.undef,.undef,.undef,.undef,.undef,.undef,.undef,.undef,.undef,.undef,.undef,.undef,.undef,.undef,.undef,.undef,.undef] h) Q := by
  refine loop_down (I := fun k env h' => h' = h ∧ ∃ a : Nat,k = s.length - a ∧ a0 ≤ a ∧ (a = a0 ∨ a0 < a) ∧ a ≤ s.length ∧ a + sk true (s.drop a) = T ∧ env = [.str s,.int .i64 ((a : Nat) : Int),.undef,.undef,.undef,.undef,.undef,.undef,.undef,.undef,.undef,.undef,.undef,.undef,.undef,.undef,.undef,.undef,.undef,.undef,.undef,.undef,.undef,.undef,.undef,.undef,.undef,.undef,.undef,.undef,.undef,.undef,.undef,.undef,.undef]) ?_ (i := s.length - a0) ⟨rfl,a0,rfl,Nat.le_refl _,.inl rfl,ha,hT,by simp -implicitDefEqProofs only [go_sem,↓reduceIte,reduceCtorEq,Int.reduceLT,Int.reduceLE,Int.reduceToNat,Nat.reduceAdd,Nat.reduceMul,Nat.reduceLeDiff,Nat.reduceLT,Nat.reduceSub,Int.reduceNeg,Int.reduceEq,Int.reduceBEq,Int.reduceBNe,Nat.reduceEqDiff]⟩
  rintro k env h' ⟨rfl,a,rfl,h1,h0,h2,h3,rfl⟩
  rcases Nat.lt_or_ge a s.length with hlt | hge
  · obtain ⟨c,hc⟩ := get_some hlt
    have hlt' : (a : Int) < (s.length : Int) := by omega
    have hw := wrap_succ (i := a) (by omega)
    by_cases h10 : (c.toNat : Int) = 10
    · simp -implicitDefEqProofs only [word_skip_b1,word_skip_b0,go_sem,↓reduceIte,reduceCtorEq,Int.reduceLT,Int.reduceLE,Int.reduceToNat,Nat.reduceAdd,Nat.reduceMul,Nat.reduceLeDiff,Nat.reduceLT,Nat.reduceSub,Int.reduceNeg,Int.reduceEq,Int.reduceBEq,Int.reduceBNe,Nat.reduceEqDiff,hlt',hc,h10]
      refine hQ _ a (by simp -implicitDefEqProofs only [go_sem,↓reduceIte,reduceCtorEq,Int.reduceLT,Int.reduceLE,Int.reduceToNat,Nat.reduceAdd,Nat.reduceMul,Nat.reduceLeDiff,Nat.reduceLT,Nat.reduceSub,Int.reduceNeg,Int.reduceEq,Int.reduceBEq,Int.reduceBNe,Nat.reduceEqDiff]) h1 ?_ h2 ?_
      · intro _ hne
        rcases h0 with rfl | h0
        · exfalso; refine hne ?_; rw [hc]; congr 1; exact UInt8.toNat_inj.1 (by simpa using (by omega : c.toNat = 10))
        · exact h0
      · rw [← h3,drop_get hc]; simp [sk,isBlank,h10]
    · simp -implicitDefEqProofs only [word_skip_b1,word_skip_b0,go_sem,↓reduceIte,reduceCtorEq,Int.reduceLT,Int.reduceLE,Int.reduceToNat,Nat.reduceAdd,Nat.reduceMul,Nat.reduceLeDiff,Nat.reduceLT,Nat.reduceSub,Int.reduceNeg,Int.reduceEq,Int.reduceBEq,Int.reduceBNe,Nat.reduceEqDiff,hlt',hc,h10,hw]
      exact ⟨s.length - (a + 1),by omega,a + 1,rfl,by omega,.inr (by omega),by omega,by rw [drop_get hc] at h3; simp only [sk,h10,if_false] at h3; omega,rfl⟩
  · have hlt' : ¬ (a : Int) < (s.length : Int) := by omega
    simp -implicitDefEqProofs only [word_skip_b1,word_skip_b0,go_sem,↓reduceIte,reduceCtorEq,Int.reduceLT,Int.reduceLE,Int.reduceToNat,Nat.reduceAdd,Nat.reduceMul,Nat.reduceLeDiff,Nat.reduceLT,Nat.reduceSub,Int.reduceNeg,Int.reduceEq,Int.reduceBEq,Int.reduceBNe,Nat.reduceEqDiff,hlt']
    refine hQ _ a (by simp -implicitDefEqProofs only [go_sem,↓reduceIte,reduceCtorEq,Int.reduceLT,Int.reduceLE,Int.reduceToNat,Nat.reduceAdd,Nat.reduceMul,Nat.reduceLeDiff,Nat.reduceLT,Nat.reduceSub,Int.reduceNeg,Int.reduceEq,Int.reduceBEq,Int.reduceBNe,Nat.reduceEqDiff]) h1 (fun h => by omega) h2 ?_
    rw [← h3,List.drop_eq_nil_of_le hge]; simp [sk]

theorem skip_spec (s : List UInt8) (hs : s.length ≤ 4096) (a0 : Nat) (ha : a0 ≤ s.length) (lo : Nat) (h : VHeap) : callVL vp lo n_word_skip [.str s,.int .i64 (a0 : Nat)] h = some (.int .i64 ((a0 + sk false (s.drop a0) : Nat) : Int),h) := by
  refine call_valE (fn := word_skip_v) rfl rfl rfl rfl rfl ?_ lo h
  generalize hT : a0 + sk false (s.drop a0) = T
  obtain ⟨P,hP⟩ : ∃ P : VV → Prop,P = fun w : VV => w = .int .i64 (T : Int) := ⟨_,rfl⟩
  have hP1 : P (.int .i64 (T : Int)) := by subst hP; rfl
  have hP2 : (fun r : VV × VHeap => r.1 = .int .i64 (T : Int)) = fun r => P r.1 := by subst hP; rfl
  rw [hP2]
  clear hP hP2
  simp -implicitDefEqProofs only [word_skip_b1,go_sem,↓reduceIte,reduceCtorEq,Int.reduceLT,Int.reduceLE,Int.reduceToNat,Nat.reduceAdd,Nat.reduceMul,Nat.reduceLeDiff,Nat.reduceLT,Nat.reduceSub,Int.reduceNeg,Int.reduceEq,Int.reduceBEq,Int.reduceBNe,Nat.reduceEqDiff]
  rw [Sat_bind]
  refine loop_down (I := fun k env h' => h' = [] ∧ ∃ a : Nat,k = s.length - a ∧ a ≤ s.length ∧ a + sk false (s.drop a) = T ∧ env = [.str s,.int .i64 ((a : Nat) : Int),.undef,.undef,.undef,.undef,.undef,.undef,.undef,.undef,.undef,.undef,.undef,.undef,.undef,.undef,.undef,.undef,.undef,.undef,.undef,.undef,.undef,.undef,.undef,.undef,.undef,.undef,.undef,.undef,.undef,.undef,.undef,.undef,.undef]) ?_ (i := s.length - a0) ⟨rfl,a0,rfl,ha,hT,by simp -implicitDefEqProofs only [go_sem,↓reduceIte,reduceCtorEq,Int.reduceLT,Int.reduceLE,Int.reduceToNat,Nat.reduceAdd,Nat.reduceMul,Nat.reduceLeDiff,Nat.reduceLT,Nat.reduceSub,Int.reduceNeg,Int.reduceEq,Int.reduceBEq,Int.reduceBNe,Nat.reduceEqDiff]⟩
  rintro k env h' ⟨rfl,a,rfl,h2,h3,rfl⟩
  rcases Nat.lt_or_ge a s.length with hlt | hge
  · obtain ⟨c,hc⟩ := get_some hlt
    have hlt' : (a : Int) < (s.length : Int) := by omega
    have hw := wrap_succ (i := a) (by omega)
    have hbl := fun lo h => blank_spec c lo h
    have hd := drop_get hc
    by_cases hb : isBlank c = true
    · simp -implicitDefEqProofs only [word_skip_b1,word_skip_b0,go_sem,↓reduceIte,reduceCtorEq,Int.reduceLT,Int.reduceLE,Int.reduceToNat,Nat.reduceAdd,Nat.reduceMul,Nat.reduceLeDiff,Nat.reduceLT,Nat.reduceSub,Int.reduceNeg,Int.reduceEq,Int.reduceBEq,Int.reduceBNe,Nat.reduceEqDiff,hlt',hc,hbl,hb,hw]
      exact ⟨s.length - (a + 1),by omega,a + 1,rfl,by omega,by rw [hd] at h3; simp only [sk,hb,if_true] at h3; omega,rfl⟩
    · by_cases h35 : (c.toNat : Int) = 35
      · have hbl2 := hbl
        simp only [by8,h35] at hbl2
        simp -implicitDefEqProofs only [word_skip_b0,go_sem,↓reduceIte,reduceCtorEq,Int.reduceLT,Int.reduceLE,Int.reduceToNat,Nat.reduceAdd,Nat.reduceMul,Nat.reduceLeDiff,Nat.reduceLT,Nat.reduceSub,Int.reduceNeg,Int.reduceEq,Int.reduceBEq,Int.reduceBNe,Nat.reduceEqDiff,hlt',hc,hbl2,hb,h35]
        rw [Sat_bind]
        refine skip_in (T := T) hs h2 ?_ _ ?_
        · rw [hd] at h3 ⊢; simp only [sk,hb,h35,if_false,if_true,Bool.false_eq_true] at h3 ⊢; simpa using h3
        · intro env' b he hab hne hbl' hbT
          simp -implicitDefEqProofs only [go_sem,↓reduceIte,reduceCtorEq,Int.reduceLT,Int.reduceLE,Int.reduceToNat,Nat.reduceAdd,Nat.reduceMul,Nat.reduceLeDiff,Nat.reduceLT,Nat.reduceSub,Int.reduceNeg,Int.reduceEq,Int.reduceBEq,Int.reduceBNe,Nat.reduceEqDiff,he]
          have : a < b := hne hlt (by rw [hc]; intro h; cases h; simp at h35)
          exact ⟨s.length - b,by omega,b,rfl,hbl',hbT,rfl⟩
      · simp -implicitDefEqProofs only [word_skip_b1,word_skip_b0,go_sem,↓reduceIte,reduceCtorEq,Int.reduceLT,Int.reduceLE,Int.reduceToNat,Nat.reduceAdd,Nat.reduceMul,Nat.reduceLeDiff,Nat.reduceLT,Nat.reduceSub,Int.reduceNeg,Int.reduceEq,Int.reduceBEq,Int.reduceBNe,Nat.reduceEqDiff,hlt',hc,hbl,hb,h35]
        rw [hd] at h3; simp only [sk,hb,h35,if_false,Bool.false_eq_true] at h3
        obtain rfl : a = T := by omega
        exact hP1
  · have hlt' : ¬ (a : Int) < (s.length : Int) := by omega
    simp -implicitDefEqProofs only [word_skip_b1,word_skip_b0,go_sem,↓reduceIte,reduceCtorEq,Int.reduceLT,Int.reduceLE,Int.reduceToNat,Nat.reduceAdd,Nat.reduceMul,Nat.reduceLeDiff,Nat.reduceLT,Nat.reduceSub,Int.reduceNeg,Int.reduceEq,Int.reduceBEq,Int.reduceBNe,Nat.reduceEqDiff,hlt']
    rw [List.drop_eq_nil_of_le hge] at h3
    obtain rfl : a = T := by simpa [sk] using h3
    exact hP1
end Vg.G2
