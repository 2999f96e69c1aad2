import Derived.Test.YtiidghpdgkfncaaVB3
namespace Vg.G2
open Go Lg
set_option linter.unusedSimpArgs false
set_option maxRecDepth 10000
set_option maxHeartbeats 1000000
attribute [local congr] bind_congr1
attribute [local go_sem] word_Read_r0 word_Read_r1 word_Read_r2 word_Read_r3 word_Read_r4 word_Read_r5 word_Read_r6 word_Read_r7 word_Read_r8 word_Read_r9 word_Read_r10 word_Read_r11 word_Read_f word_Read_v

/-- A word. -/
structure Wd where
  kind : Int
  at_ : Nat
  text : List UInt8
  deriving DecidableEq
def fW (w : Wd) : List VV := [.int .i64 w.kind,.int .i64 (w.at_ : Nat),.str w.text]
theorem fW_len (w : Wd) : (fW w).length = 3 := rfl
theorem tw_pos {cls : UInt8 → Bool} {c : UInt8} {r : List UInt8} (h : cls c = true) : 1 ≤ tw cls (c :: r) := by rw [tw_cons,if_pos h]; omega
theorem numL_pos {c : UInt8} {r : List UInt8} (h : isDigit c = true) : 1 ≤ numL (c :: r) := by
  have := tw_pos (r := r) h
  unfold numL
  split
  · split <;> omega
  · exact this
theorem oneL_len {r : List UInt8} (h : (oneL r).2.2 = 0) : 1 ≤ (oneL r).2.1 ∧ (oneL r).2.1 ≤ r.length := by
  cases r with
  | nil => simp [oneL] at h
  | cons c r =>
    rw [oneL_cons] at h ⊢
    by_cases h1 : isLetter c = true
    · simp only [h1,if_true] at h ⊢
      split at h
      · rename_i h2; simp only [h2,if_true]; exact ⟨tw_pos h1,tw_le _ _⟩
      · simp at h
    · simp only [h1,if_false,Bool.false_eq_true] at h ⊢
      by_cases h2 : isDigit c = true
      · simp only [h2,if_true] at h ⊢
        split at h
        · rename_i h3; simp only [h3,if_true]; exact ⟨numL_pos h2,numL_le _⟩
        · simp at h
      · simp only [h2,if_false,Bool.false_eq_true] at h ⊢
        split at h
        · rename_i h3; simp only [h3,if_true]; exact ⟨Nat.le_refl _,by simp⟩
        · simp at h
/-- The words of a text,at most so many. -/
def rd : Nat → Nat → List UInt8 → Except Int (List Wd)
  | 0,_,_ => .ok []
  | n + 1,a,r => if r = [] then .ok [] else
    if (oneL r).2.2 = 0 then
      (rd n (a + (oneL r).2.1 + sk false (r.drop (oneL r).2.1)) ((r.drop (oneL r).2.1).drop (sk false (r.drop (oneL r).2.1)))).map (⟨(oneL r).1,a,r.take (oneL r).2.1⟩ :: ·)
    else .error (oneL r).2.2
def readF (s : List UInt8) : Except Int (List Wd) := if 4096 < s.length then .error 2 else rd s.length (sk false s) (s.drop (sk false s))
def readV : Except Int (List Wd) → VV
  | .ok ws => .tup [.list .s (ws.map fW),.int .i64 0]
  | .error e => .tup [.list .s [],.int .i64 e]
theorem err_map {α β : Type} {e : Int} (f : α → β) : (Except.error e : Except Int α).map f = .error e := rfl
theorem ok_map {α β : Type} {a : α} (f : α → β) : (Except.ok a : Except Int α).map f = .ok (f a) := rfl
theorem map_map {α β γ : Type} (x : Except Int α) (f : α → β) (g : β → γ) : (x.map f).map g = x.map fun a => g (f a) := by cases x <;> rfl

theorem Read_spec (s : List UInt8) (lo : Nat) (h : VHeap) : callVL vp lo n_word_Read [.str s] h = some (readV (readF s),h) := by
  refine call_valE (fn := word_Read_v) rfl rfl rfl rfl rfl ?_ lo h
  generalize hT : readF s = T
  obtain ⟨P,hP⟩ : ∃ P : VV → Prop,P = fun w : VV => w = readV T := ⟨_,rfl⟩
  have hP1 : P (readV T) := by subst hP; rfl
  have hP2 : (fun r : VV × VHeap => r.1 = readV T) = fun r => P r.1 := by subst hP; rfl
  rw [hP2]
  clear hP hP2
  unfold readF at hT
  by_cases hs : 4096 < s.length
  · rw [if_pos hs] at hT
    have hs' : (4096 : Int) < (s.length : Int) := by omega
    subst hT
    simp -implicitDefEqProofs only [go_sem,↓reduceIte,reduceCtorEq,Int.reduceLT,Int.reduceLE,Int.reduceToNat,Nat.reduceAdd,Nat.reduceMul,Nat.reduceLeDiff,Nat.reduceLT,Nat.reduceSub,Int.reduceNeg,Int.reduceEq,Int.reduceBEq,Int.reduceBNe,Nat.reduceEqDiff,hs']
    exact hP1
  rw [if_neg hs] at hT
  have hs' : ¬ (4096 : Int) < (s.length : Int) := by omega
  have hsk := skip_spec s (by omega) 0 (by omega)
  have hsl := sk_le false s
  simp only [List.drop_zero,Nat.zero_add,cast_zero] at hsk
  generalize sk false s = a0 at *
  simp -implicitDefEqProofs only [go_sem,↓reduceIte,reduceCtorEq,Int.reduceLT,Int.reduceLE,Int.reduceToNat,Nat.reduceAdd,Nat.reduceMul,Nat.reduceLeDiff,Nat.reduceLT,Nat.reduceSub,Int.reduceNeg,Int.reduceEq,Int.reduceBEq,Int.reduceBNe,Nat.reduceEqDiff,hs',hsk]
  rw [Sat_bind]
  refine loop_down (I := fun k env h' => h' = [] ∧ ∃ (a : Nat) (acc : List Wd),k = s.length - a ∧ a ≤ s.length ∧ acc.length ≤ a ∧ (∃ n,s.length - a ≤ n ∧ (rd n a (s.drop a)).map (acc ++ ·) = T) ∧ env = [.str s,.undef,.undef,.undef,.list .o (acc.map fW),.int .i64 ((a : Nat) : Int),.undef,.undef,.undef,.undef,.undef,.undef,.undef,.undef,.undef,.undef,.undef,.undef,.undef,.undef,.undef,.undef,.undef,.undef,.undef,.undef,.undef,.undef,.undef,.undef,.undef,.undef,.undef,.undef,.undef,.undef,.undef,.undef]) ?_ (i := s.length - a0) ⟨rfl,a0,[],rfl,hsl,Nat.zero_le _,⟨s.length,by omega,by rw [← hT]; cases rd s.length a0 (s.drop a0) <;> rfl⟩,by simp -implicitDefEqProofs only [go_sem,↓reduceIte,reduceCtorEq,Int.reduceLT,Int.reduceLE,Int.reduceToNat,Nat.reduceAdd,Nat.reduceMul,Nat.reduceLeDiff,Nat.reduceLT,Nat.reduceSub,Int.reduceNeg,Int.reduceEq,Int.reduceBEq,Int.reduceBNe,Nat.reduceEqDiff]⟩
  rintro k env h' ⟨rfl,a,acc,rfl,h2,hac,⟨n,hn,hR⟩,rfl⟩
  rcases Nat.lt_or_ge a s.length with hlt | hge
  · have hlt' : (a : Int) < (s.length : Int) := by omega
    have hne : s.drop a ≠ [] := fun h => by have := congrArg List.length h; simp at this; omega
    have ho := one_spec s (by omega) a hlt
    obtain ⟨m,rfl⟩ : ∃ m,n = m + 1 := ⟨n - 1,by omega⟩
    simp only [rd,hne,if_false] at hR
    unfold oneV2 at ho
    by_cases he : (oneL (s.drop a)).2.2 = 0
    · obtain ⟨l1,l2⟩ := oneL_len he
      simp only [he,if_true] at ho hR
      generalize (oneL (s.drop a)).2.1 = len at *
      generalize (oneL (s.drop a)).1 = kd at *
      rw [List.length_drop] at l2
      have hle : ((s.drop a).take len).length = len := by rw [List.length_take,List.length_drop]; omega
      have hw : IntKind.i64.wrap ((a : Int) + (len : Int)) = ((a + len : Nat) : Int) := by rw [wrap_id (by omega) (by omega)]; rfl
      have hsk2 := skip_spec s (by omega) (a + len) (by omega)
      have hal := all_len fW_len acc
      have hr : (acc.length + 1 + 512) * 32 ≤ 140737488355328 := by omega
      simp -implicitDefEqProofs only [word_Read_b0,go_sem,↓reduceIte,reduceCtorEq,Int.reduceLT,Int.reduceLE,Int.reduceToNat,Nat.reduceAdd,Nat.reduceMul,Nat.reduceLeDiff,Nat.reduceLT,Nat.reduceSub,Int.reduceNeg,Int.reduceEq,Int.reduceBEq,Int.reduceBNe,Nat.reduceEqDiff,hlt',ho,hal,hr,hle,hw,hsk2]
      rw [List.drop_drop,List.drop_drop,map_map] at hR
      have hsl2 := sk_le false (s.drop (a + len))
      rw [List.length_drop] at hsl2
      refine ⟨s.length - (a + len + sk false (s.drop (a + len))),by omega,a + len + sk false (s.drop (a + len)),acc ++ [⟨kd,a,(s.drop a).take len⟩],rfl,by omega,by simp; omega,⟨m,by omega,?_⟩,?_⟩
      · rw [← hR]; congr 1; funext x; simp
      · simp only [List.map_append,List.map_cons,List.map_nil,fW]
    · simp only [he,if_false,err_map] at ho hR
      subst hR
      simp -implicitDefEqProofs only [word_Read_b0,go_sem,↓reduceIte,reduceCtorEq,Int.reduceLT,Int.reduceLE,Int.reduceToNat,Nat.reduceAdd,Nat.reduceMul,Nat.reduceLeDiff,Nat.reduceLT,Nat.reduceSub,Int.reduceNeg,Int.reduceEq,Int.reduceBEq,Int.reduceBNe,Nat.reduceEqDiff,hlt',ho,he]
      exact hP1
  · have hlt' : ¬ (a : Int) < (s.length : Int) := by omega
    simp -implicitDefEqProofs only [word_Read_b0,go_sem,↓reduceIte,reduceCtorEq,Int.reduceLT,Int.reduceLE,Int.reduceToNat,Nat.reduceAdd,Nat.reduceMul,Nat.reduceLeDiff,Nat.reduceLT,Nat.reduceSub,Int.reduceNeg,Int.reduceEq,Int.reduceBEq,Int.reduceBNe,Nat.reduceEqDiff,hlt']
    have : T = .ok acc := by
      rw [← hR,List.drop_eq_nil_of_le hge]
      cases n <;> simp [rd,ok_map]
    subst this
    exact hP1
theorem worded_run : callV vp 60 0 n_gantkeep4_worded [] [] = some (.bool true,[]) := by kernel_rfl
theorem worded_spec (lo : Nat) (h : VHeap) : callVL vp lo n_gantkeep4_worded [] h = some (.bool true,h) := call_eval (fn := gantkeep4_worded_v) rfl rfl rfl rfl worded_run lo h
end Vg.G2
