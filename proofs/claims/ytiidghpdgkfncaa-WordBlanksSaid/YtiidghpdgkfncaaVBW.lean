/- What is written of words is read as the same words. -/
import Derived.Test.YtiidghpdgkfncaaVB5
namespace Vg.G2
open Go Lg
set_option linter.unusedSimpArgs false

theorem tw_app {cls : UInt8 → Bool} {r : List UInt8} (hr : ∀ c r',r = c :: r' → cls c = false) : ∀ {t : List UInt8},(∀ x ∈ t,cls x = true) → tw cls (t ++ r) = t.length
  | [],_ => by
    cases r with
    | nil => rfl
    | cons c r' => rw [List.nil_append,tw_cons,hr c r' rfl]; rfl
  | x :: t,h => by
    rw [List.cons_append,tw_cons,if_pos (h x (by simp)),tw_app hr fun y hy => h y (by simp [hy])]; rfl
theorem tw_take (cls : UInt8 → Bool) : ∀ (u : List UInt8),∀ x ∈ u.take (tw cls u),cls x = true
  | [],x,hx => by simp at hx
  | c :: u,x,hx => by
    rw [tw_cons] at hx
    by_cases h : cls c = true
    · rw [if_pos h,List.take_succ_cons] at hx
      rcases List.mem_cons.1 hx with rfl | hx
      · exact h
      · exact tw_take cls u x hx
    · rw [if_neg h] at hx; simp at hx
theorem tw_drop (cls : UInt8 → Bool) : ∀ (u : List UInt8) (c : UInt8) (r : List UInt8),u.drop (tw cls u) = c :: r → cls c = false
  | [],c,r,h => by simp [tw] at h
  | x :: u,c,r,h => by
    rw [tw_cons] at h
    by_cases hx : cls x = true
    · rw [if_pos hx,List.drop_succ_cons] at h; exact tw_drop cls u c r h
    · rw [if_neg hx] at h; simp at h; rw [← h.1]; simpa using hx

/-- What stands behind a word: nothing,a blank or a comment. -/
def sepH (r : List UInt8) : Prop := ∀ c r',r = c :: r' → (c.toNat : Int) = 32 ∨ (c.toNat : Int) = 10 ∨ (c.toNat : Int) = 35
theorem sepH.letter {r : List UInt8} (h : sepH r) : ∀ c r',r = c :: r' → isLetter c = false := fun c r' e => by
  unfold isLetter; rcases h c r' e with h | h | h <;> simp [h]
theorem sepH.digit {r : List UInt8} (h : sepH r) : ∀ c r',r = c :: r' → isDigit c = false := fun c r' e => by
  unfold isDigit; rcases h c r' e with h | h | h <;> simp [h]

/-- A text of its kind,whatever stands behind it. -/
def wordOK (w : Wd) : Prop := (∀ r,sepH r → oneL (w.text ++ r) = (w.kind,w.text.length,0)) ∧ w.text ≠ [] ∧ ((w.kind = 1 ∧ isNameL w.text = true) ∨ (w.kind = 2 ∧ isNumL w.text = true) ∨ (w.kind = 3 ∧ ∃ c,w.text = [c] ∧ isSign c = true))

theorem numL_step {v : List UInt8} {a b : UInt8} {t : List UInt8} (h : v.drop (tw isDigit v) = a :: b :: t) (hab : (a.toNat : Int) = 47 ∧ isDigit b = true) : numL v = tw isDigit v + 1 + tw isDigit (v.drop (tw isDigit v + 1)) := by
  unfold numL; rw [h]; simp only [hab,and_self,if_true]
theorem numL_base {v : List UInt8} (h : ∀ a b t,v.drop (tw isDigit v) = a :: b :: t → ¬ ((a.toNat : Int) = 47 ∧ isDigit b = true)) : numL v = tw isDigit v := by
  unfold numL
  split
  · rename_i a b t ht; rw [if_neg (h a b t ht)]
  · rfl
theorem numL_cases (u : List UInt8) : numL u = tw isDigit u ∨ ∃ a b t,u.drop (tw isDigit u) = a :: b :: t ∧ ((a.toNat : Int) = 47 ∧ isDigit b = true) ∧ numL u = tw isDigit u + 1 + tw isDigit (u.drop (tw isDigit u + 1)) := by
  by_cases h : ∃ a b t,u.drop (tw isDigit u) = a :: b :: t ∧ ((a.toNat : Int) = 47 ∧ isDigit b = true)
  · obtain ⟨a,b,t,h1,h2⟩ := h; exact .inr ⟨a,b,t,h1,h2,numL_step h1 h2⟩
  · exact .inl (numL_base fun a b t h1 h2 => h ⟨a,b,t,h1,h2⟩)
theorem numL_app {u r : List UInt8} (hr : sepH r) : numL (u.take (numL u) ++ r) = numL u := by
  have h1 := tw_le isDigit u
  have h2 := tw_take isDigit u
  have h3 := tw_drop isDigit u
  rcases numL_cases u with hn | ⟨a,b,t,ht,hab,hn⟩
  · rw [hn]
    generalize tw isDigit u = d at *
    have hl : (u.take d).length = d := by rw [List.length_take]; omega
    have e1 : tw isDigit (u.take d ++ r) = d := by rw [tw_app hr.digit h2,hl]
    have e2 : (u.take d ++ r).drop d = r := by rw [List.drop_append_of_le_length (by omega),List.drop_of_length_le (by omega)]; rfl
    rw [numL_base,e1]
    rw [e1,e2]
    intro a b t e hab
    have := hr a (b :: t) e
    omega
  · rw [hn]
    generalize tw isDigit u = d at *
    have hl : (u.take d).length = d := by rw [List.length_take]; omega
    have hl2 := tw_le isDigit (u.drop (d + 1))
    have ha : isDigit a = false := h3 a (b :: t) ht
    have hx : u = u.take d ++ a :: b :: t := by rw [← ht,List.take_append_drop]
    have hy : u.drop (d + 1) = b :: t := by rw [← List.drop_drop,ht]; rfl
    have hz := tw_take isDigit (u.drop (d + 1))
    rw [hy] at hl2 hz ⊢
    have hpos : 1 ≤ tw isDigit (b :: t) := tw_pos hab.2
    generalize tw isDigit (b :: t) = e at *
    obtain ⟨m,rfl⟩ : ∃ m,e = m + 1 := ⟨e - 1,by omega⟩
    have hle : ((b :: t).take (m + 1)).length = m + 1 := by rw [List.length_take]; omega
    have hsp : u.take (d + 1 + (m + 1)) ++ r = u.take d ++ (a :: ((b :: t).take (m + 1) ++ r)) := by
      conv => lhs; rw [hx]
      rw [List.take_append,List.take_of_length_le (by omega),hl,show d + 1 + (m + 1) - d = m + 1 + 1 by omega,List.take_succ_cons]
      simp
    rw [hsp]
    have e1 : tw isDigit (u.take d ++ (a :: ((b :: t).take (m + 1) ++ r))) = d := by
      rw [tw_app (fun c r' e => by cases e; exact ha) h2,hl]
    have e2 : (u.take d ++ (a :: ((b :: t).take (m + 1) ++ r))).drop d = a :: b :: (t.take m ++ r) := by
      rw [List.drop_append_of_le_length (by omega),List.drop_of_length_le (by omega)]; simp
    have e3 : (u.take d ++ (a :: ((b :: t).take (m + 1) ++ r))).drop (d + 1) = (b :: t).take (m + 1) ++ r := by
      rw [← List.drop_drop,e2]; simp
    rw [numL_step (by rw [e1]; exact e2) hab,e1,e3,tw_app hr.digit hz,hle]

theorem oneL_app {u r : List UInt8} (h : (oneL u).2.2 = 0) (hr : sepH r) : oneL (u.take (oneL u).2.1 ++ r) = oneL u := by
  cases u with
  | nil => simp [oneL] at h
  | cons c u =>
    have key : ∀ n,1 ≤ n → ∃ t,(c :: u).take n = c :: t := fun n hn => ⟨u.take (n - 1),by obtain ⟨m,rfl⟩ : ∃ m,n = m + 1 := ⟨n - 1,by omega⟩; rfl⟩
    rw [oneL_cons] at h ⊢
    by_cases h1 : isLetter c = true
    · simp only [h1,if_true] at h ⊢
      split at h
      · rename_i h2
        simp only [h2,if_true]
        have h3 := tw_take isLetter (c :: u)
        have hl : ((c :: u).take (tw isLetter (c :: u))).length = tw isLetter (c :: u) := by rw [List.length_take]; have := tw_le isLetter (c :: u); omega
        have e1 : tw isLetter ((c :: u).take (tw isLetter (c :: u)) ++ r) = tw isLetter (c :: u) := by rw [tw_app hr.letter h3,hl]
        obtain ⟨t,ht⟩ := key _ (tw_pos (r := u) h1)
        generalize tw isLetter (c :: u) = n at *
        rw [ht] at e1 hl h2 ⊢
        rw [List.cons_append] at e1 ⊢
        rw [oneL_cons,if_pos h1,e1,← List.cons_append,List.take_append_of_le_length (by omega),List.take_of_length_le (by omega),if_pos h2]
      · simp at h
    · simp only [h1,if_false,Bool.false_eq_true] at h ⊢
      by_cases h2 : isDigit c = true
      · simp only [h2,if_true] at h ⊢
        split at h
        · rename_i h3
          simp only [h3,if_true]
          have e1 := numL_app (u := c :: u) hr
          have hl : ((c :: u).take (numL (c :: u))).length = numL (c :: u) := by rw [List.length_take]; have := numL_le (c :: u); omega
          obtain ⟨t,ht⟩ := key _ (numL_pos (r := u) h2)
          generalize numL (c :: u) = n at *
          rw [ht] at e1 hl h3 ⊢
          rw [List.cons_append] at e1 ⊢
          rw [oneL_cons,if_neg h1,if_pos h2,e1,← List.cons_append,List.take_append_of_le_length (by omega),List.take_of_length_le (by omega),if_pos h3]
        · simp at h
      · simp only [h2,if_false,Bool.false_eq_true] at h ⊢
        split at h
        · rename_i h3
          simp only [h3,if_true,List.take_succ_cons,List.take_zero,List.cons_append,List.nil_append]
          rw [oneL_cons,if_neg h1,if_neg h2,if_pos h3]
        · simp at h
theorem oneL_ok {u : List UInt8} (h : (oneL u).2.2 = 0) (a : Nat) : wordOK ⟨(oneL u).1,a,u.take (oneL u).2.1⟩ := by
  obtain ⟨l1,l2⟩ := oneL_len h
  have hl : (u.take (oneL u).2.1).length = (oneL u).2.1 := by rw [List.length_take]; omega
  refine ⟨fun r hr => ?_,?_,?_⟩
  · simp only
    rw [oneL_app h hr,hl]
    ext <;> simp [h]
  · intro e; simp only at e; rw [e] at hl; simp at hl; omega
  · cases u with
    | nil => simp [oneL] at h
    | cons c u =>
      rw [oneL_cons] at h ⊢
      by_cases h1 : isLetter c = true
      · simp only [h1,if_true] at h ⊢
        split at h
        · rename_i h2; simp only [h2,if_true]; exact .inl ⟨trivial,trivial⟩
        · simp at h
      · simp only [h1,if_false,Bool.false_eq_true] at h ⊢
        by_cases h2 : isDigit c = true
        · simp only [h2,if_true] at h ⊢
          split at h
          · rename_i h3; simp only [h3,if_true]; exact .inr (.inl ⟨trivial,trivial⟩)
          · simp at h
        · simp only [h2,if_false,Bool.false_eq_true] at h ⊢
          split at h
          · rename_i h3; simp only [h3,if_true]; exact .inr (.inr ⟨trivial,c,rfl,h3⟩)
          · simp at h
theorem rd_ok : ∀ (n a : Nat) (r : List UInt8) {ws : List Wd},rd n a r = .ok ws → ∀ w ∈ ws,wordOK w
  | 0,_,_,_,h,w,hw => by cases h; simp at hw
  | n + 1,a,r,ws,h,w,hw => by
    simp only [rd] at h
    split at h
    · cases h; simp at hw
    · split at h
      · rename_i he
        generalize hx : rd n _ _ = x at h
        cases x with
        | error e => cases h
        | ok us =>
          cases h
          rcases List.mem_cons.1 hw with rfl | hw
          · exact oneL_ok he a
          · exact rd_ok n _ _ hx w hw
      · cases h
theorem readF_ok {s : List UInt8} {ws : List Wd} (h : readF s = .ok ws) : ∀ w ∈ ws,wordOK w := by
  unfold readF at h
  split at h
  · cases h
  · exact rd_ok _ _ _ h

/-- Words with what stands ahead of each. -/
def R : List (List UInt8 × Wd) → List UInt8
  | [] => []
  | (g,w) :: l => g ++ (w.text ++ R l)
/-- A gap: behind it,of what is no blank,nothing is skipped. -/
def gapOK (g : List UInt8) : Prop := ∀ c r,isBlank c = false → (c.toNat : Int) ≠ 35 → sk false (g ++ c :: r) = g.length
def Rok : List (List UInt8 × Wd) → Prop
  | [] => True
  | (g,w) :: l => gapOK g ∧ wordOK w ∧ sepH (R l) ∧ Rok l
theorem wordOK.head {w : Wd} (h : wordOK w) : ∃ c t,w.text = c :: t ∧ isBlank c = false ∧ (c.toNat : Int) ≠ 35 := by
  obtain ⟨h1,h2,_⟩ := h
  have h1 := h1 [] (fun c r e => by cases e)
  rw [List.append_nil] at h1
  cases ht : w.text with
  | nil => exact absurd ht h2
  | cons c t =>
    refine ⟨c,t,rfl,?_⟩
    rw [ht,oneL_cons] at h1
    unfold isBlank
    by_cases hl : isLetter c = true
    · unfold isLetter at hl; simp at hl ⊢; omega
    · rw [if_neg hl] at h1
      by_cases hd : isDigit c = true
      · unfold isDigit at hd; simp at hd ⊢; omega
      · rw [if_neg hd] at h1
        by_cases hs : isSign c = true
        · unfold isSign at hs; simp at hs ⊢; omega
        · rw [if_neg hs] at h1; simp at h1
def zt0 (w : Wd) : Wd := ⟨w.kind,0,w.text⟩
theorem R_len : ∀ {l : List (List UInt8 × Wd)},Rok l → l.length ≤ (R l).length
  | [],_ => by simp
  | (g,w) :: l,h => by
    have := R_len h.2.2.2
    obtain ⟨c,t,ht,_⟩ := h.2.1.head
    simp only [R,List.length_append,List.length_cons,ht]
    omega
theorem rd_R : ∀ (l : List (List UInt8 × Wd)),Rok l → ∀ (n a : Nat),l.length ≤ n → ∃ ks,rd n (a + sk false (R l)) ((R l).drop (sk false (R l))) = .ok ks ∧ ks.map zt0 = l.map fun p => zt0 p.2
  | [],_,n,a,_ => by
    refine ⟨[],?_,rfl⟩
    cases n <;> simp [rd,R]
  | (g,w) :: l,h,n,a,hn => by
    obtain ⟨hg,hw,hs,hl⟩ := h
    obtain ⟨m,rfl⟩ : ∃ m,n = m + 1 := ⟨n - 1,by simp at hn; omega⟩
    obtain ⟨c,t,ht,hb,h35⟩ := hw.head
    have e1 : sk false (R ((g,w) :: l)) = g.length := by
      simp only [R,ht,List.cons_append]; exact hg c _ hb h35
    rw [e1]
    have e2 : (R ((g,w) :: l)).drop g.length = w.text ++ R l := by simp only [R]; rw [List.drop_left]
    rw [e2]
    have ho := hw.1 (R l) hs
    have hne : w.text ++ R l ≠ [] := by rw [ht]; simp
    obtain ⟨ks,hk,hm⟩ := rd_R l hl m (a + g.length + w.text.length) (by simp at hn; omega)
    refine ⟨⟨w.kind,a + g.length,w.text⟩ :: ks,?_,by simp [hm,zt0]⟩
    simp only [rd,hne,if_false,ho,if_true]
    rw [List.drop_left,List.take_left,hk]; rfl
theorem readF_R {l : List (List UInt8 × Wd)} (h : Rok l) (hl : (R l).length ≤ 4096) : ∃ ks,readF (R l) = .ok ks ∧ ks.map zt0 = l.map fun p => zt0 p.2 := by
  obtain ⟨ks,hk,hm⟩ := rd_R l h (R l).length 0 (R_len h)
  refine ⟨ks,?_,hm⟩
  unfold readF
  rw [if_neg (by omega),← hk,Nat.zero_add]

end Vg.G2
