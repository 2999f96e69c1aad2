import Derived.Test.YtpikplkdlbnffaaGreatDoorVP2
namespace Vg.G3
open Go Lg Vg.Nm
set_option linter.unusedSimpArgs false
set_option linter.unusedVariables false
set_option maxRecDepth 10000
set_option maxHeartbeats 4000000
attribute [local congr] bind_congr1
attribute [local go_sem] nat_common_r0 nat_common_r1 nat_common_r2 nat_common_r2_d nat_common_r3 nat_common_f nat_common_v nat_Gcd_r0 nat_Gcd_r1 nat_Gcd_r2 nat_Gcd_r3 nat_Gcd_r4 nat_Gcd_r5 nat_Gcd_r6 nat_Gcd_r7 nat_Gcd_r8 nat_Gcd_r9 nat_Gcd_r10 nat_Gcd_r11 nat_Gcd_f nat_Gcd_v rat_Good_r0 rat_Good_r1 rat_Good_r2 rat_Good_r3 rat_Good_f rat_Good_v

theorem common_spec (x y : Nat) (hx : x < 18446744073709551616) (hy : y < 18446744073709551616) (lo : Nat) (h : VHeap) : callVL vp lo n_nat_common [.int .u64 (x : Int),.int .u64 (y : Int)] h = some (.int .u64 ((Nat.gcd x y : Nat) : Int),h) := by
  refine call_valE (fn := nat_common_v) rfl rfl rfl rfl rfl ?_ lo h
  generalize hT : Nat.gcd x y = T
  obtain ⟨P,hP⟩ : ∃ P : VV → Prop,P = fun w : VV => w = .int .u64 (T : Int) := ⟨_,rfl⟩
  have hP1 : P (.int .u64 (T : Int)) := by subst hP; rfl
  have hP2 : (fun r : VV × VHeap => r.1 = .int .u64 (T : Int)) = fun r => P r.1 := by subst hP; rfl
  rw [hP2]
  clear hP hP2
  simp -implicitDefEqProofs only [go_sem,↓reduceIte,reduceCtorEq,Int.reduceLT,Int.reduceLE,Int.reduceToNat,Nat.reduceAdd,Nat.reduceMul,Nat.reduceLeDiff,Nat.reduceLT,Nat.reduceSub,Int.reduceNeg,Int.reduceEq,Int.reduceBEq,Int.reduceBNe,Nat.reduceEqDiff]
  rw [Sat_bind]
  refine loop_down (I := fun i env h' => ∃ x : Nat,Nat.gcd x i = T ∧ h' = [] ∧ env = [.int .u64 (x : Int),.int .u64 (i : Int),.undef,.undef,.undef,.undef,.undef,.undef,.undef,.undef,.undef,.undef]) ?_ (i := y) ⟨x,hT,rfl,by simp -implicitDefEqProofs only [go_sem,↓reduceIte,reduceCtorEq,Int.reduceLT,Int.reduceLE,Int.reduceToNat,Nat.reduceAdd,Nat.reduceMul,Nat.reduceLeDiff,Nat.reduceLT,Nat.reduceSub,Int.reduceNeg,Int.reduceEq,Int.reduceBEq,Int.reduceBNe,Nat.reduceEqDiff]⟩
  clear hT hx
  rintro i env h' ⟨x,hg,rfl,rfl⟩
  by_cases h0 : (0 : Int) < (i : Int)
  · have hne : ¬ ((i : Int) = 0) := by omega
    have hm : (x : Int).tmod (i : Int) = ((x % i : Nat) : Int) := by
      rw [Int.tmod_eq_emod_of_nonneg (by omega)]; rfl
    simp -implicitDefEqProofs only [nat_common_b0,go_sem,↓reduceIte,reduceCtorEq,Int.reduceLT,Int.reduceLE,Int.reduceToNat,Nat.reduceAdd,Nat.reduceMul,Nat.reduceLeDiff,Nat.reduceLT,Nat.reduceSub,Int.reduceNeg,Int.reduceEq,Int.reduceBEq,Int.reduceBNe,Nat.reduceEqDiff,h0,hne,hm]
    exact ⟨x % i,Nat.mod_lt _ (by omega),i,by rw [← hg,Nat.gcd_comm x i,Nat.gcd_rec i x,Nat.gcd_comm],rfl⟩
  · obtain rfl : i = 0 := by omega
    rw [Nat.gcd_zero_right] at hg
    subst hg
    have h0' : ¬ ((0 : Int) < ((0 : Nat) : Int)) := by decide
    simp -implicitDefEqProofs only [nat_common_b0,go_sem,↓reduceIte,reduceCtorEq,Int.reduceLT,Int.reduceLE,Int.reduceToNat,Nat.reduceAdd,Nat.reduceMul,Nat.reduceLeDiff,Nat.reduceLT,Nat.reduceSub,Int.reduceNeg,Int.reduceEq,Int.reduceBEq,Int.reduceBNe,Nat.reduceEqDiff,h0',Int.lt_irrefl]
    exact hP1
theorem enc_nil {n : Nat} : encB n = [] ↔ n = 0 := ⟨fun h => by rw [← val_enc n,h]; rfl,fun h => by rw [h,encB_zero]⟩
theorem enc_cons {n : Nat} (h : n ≠ 0) : ∃ c r,encB n = c :: r ∧ ¬ ((c.toNat : Int) = 0) := by
  have hc := enc_canon n
  cases he : encB n with
  | nil => exact absurd (enc_nil.1 he) h
  | cons c r =>
    rw [he] at hc
    exact ⟨c,r,rfl,fun h => hc (by apply UInt8.toNat_inj.1; simpa using h)⟩
theorem enc_one : encB 1 = [1] := by rw [encB_pos (by decide)]; rw [show 1 / 256 = 0 by decide,encB_zero]; rfl
theorem enc_is_one {n : Nat} : encB n = [1] ↔ n = 1 := ⟨fun h => by rw [← val_enc n,h]; rfl,fun h => by rw [h,enc_one]⟩
theorem trim_id {n : Nat} : trimB (encB n) = encB n := by rw [trim_enc,val_enc]
theorem cons_nil (c : UInt8) (r : List UInt8) : (c :: r == []) = false := rfl
theorem nil_nil : (([] : List UInt8) == []) = true := rfl
theorem beq_ne {a b : List UInt8} (h : ¬ a = b) : (a == b) = false := by simpa using h
/-- Numbers of at most 8 bytes. -/
theorem GcdS_spec (m n : Nat) (hm : m < 18446744073709551616) (hn : n < 18446744073709551616) (lo : Nat) (h : VHeap) : callVL vp lo n_nat_Gcd [.str (encB m),.str (encB n)] h = some (.str (encB (Nat.gcd m n)),h) := by
  refine call_valE (fn := nat_Gcd_v) rfl rfl rfl rfl rfl ?_ lo h
  have h1 := trim_spec (encB m)
  have h2 := trim_spec (encB n)
  rw [trim_id] at h1 h2
  have h8 : (256 : Nat) ^ 8 = 18446744073709551616 := by decide
  have lm : (encB m).length ≤ 8 := enc_len (by omega)
  have ln : (encB n).length ≤ 8 := enc_len (by omega)
  have s1 := short_spec (encB m) lm
  have s2 := short_spec (encB n) ln
  rw [val_enc] at s1 s2
  by_cases hm0 : m = 0
  · subst hm0
    rw [Nat.gcd_zero_left]
    rw [encB_zero] at *
    have ha : (encB n).length ≤ 4611686018427387904 := by omega
    simp -implicitDefEqProofs only [nat_Gcd_b0,go_sem,↓reduceIte,reduceCtorEq,Int.reduceLT,Int.reduceLE,Int.reduceToNat,Nat.reduceAdd,Nat.reduceMul,Nat.reduceLeDiff,Nat.reduceLT,Nat.reduceSub,Int.reduceNeg,Int.reduceEq,Int.reduceBEq,Int.reduceBNe,Nat.reduceEqDiff,loopV_eq,↓thenV_norm,↓thenV_exit,↓thenV_ret,cons_nil,nil_nil,h1,h2,binE_sadd,ha]
  obtain ⟨c,r,e1,_⟩ := enc_cons hm0
  rw [e1] at lm h1 s1 ⊢
  by_cases hn0 : n = 0
  · subst hn0
    rw [Nat.gcd_zero_right,e1]
    rw [encB_zero] at *
    have ha : (c :: r).length ≤ 4611686018427387904 := by omega
    rw [List.length_cons] at ha
    simp -implicitDefEqProofs only [nat_Gcd_b0,go_sem,↓reduceIte,reduceCtorEq,Int.reduceLT,Int.reduceLE,Int.reduceToNat,Nat.reduceAdd,Nat.reduceMul,Nat.reduceLeDiff,Nat.reduceLT,Nat.reduceSub,Int.reduceNeg,Int.reduceEq,Int.reduceBEq,Int.reduceBNe,Nat.reduceEqDiff,loopV_eq,↓thenV_norm,↓thenV_exit,↓thenV_ret,cons_nil,nil_nil,h1,h2,binE_sadd,ha]
  obtain ⟨c',r',e2,_⟩ := enc_cons hn0
  rw [e2] at ln h2 s2 ⊢
  have lm' : (((r.length + 1 : Nat) : Int)) ≤ 8 := by rw [List.length_cons] at lm; omega
  have ln' : (((r'.length + 1 : Nat) : Int)) ≤ 8 := by rw [List.length_cons] at ln; omega
  have hg : Nat.gcd m n < 18446744073709551616 := Nat.lt_of_le_of_lt (Nat.gcd_le_left _ (by omega)) hm
  have f := fromShort_spec _ hg
  by_cases hl : ((r.length + 1 : Nat) : Int) < ((r'.length + 1 : Nat) : Int)
  · have c := common_spec n m hn hm
    rw [Nat.gcd_comm] at c
    simp -implicitDefEqProofs only [nat_Gcd_b0,go_sem,↓reduceIte,reduceCtorEq,Int.reduceLT,Int.reduceLE,Int.reduceToNat,Nat.reduceAdd,Nat.reduceMul,Nat.reduceLeDiff,Nat.reduceLT,Nat.reduceSub,Int.reduceNeg,Int.reduceEq,Int.reduceBEq,Int.reduceBNe,Nat.reduceEqDiff,loopV_eq,↓thenV_norm,↓thenV_exit,↓thenV_ret,cons_nil,nil_nil,h1,h2,hl,ln',s1,s2,c,f]
  · have c := common_spec m n hm hn
    simp -implicitDefEqProofs only [nat_Gcd_b0,go_sem,↓reduceIte,reduceCtorEq,Int.reduceLT,Int.reduceLE,Int.reduceToNat,Nat.reduceAdd,Nat.reduceMul,Nat.reduceLeDiff,Nat.reduceLT,Nat.reduceSub,Int.reduceNeg,Int.reduceEq,Int.reduceBEq,Int.reduceBNe,Nat.reduceEqDiff,loopV_eq,↓thenV_norm,↓thenV_exit,↓thenV_ret,cons_nil,nil_nil,h1,h2,hl,lm',s1,s2,c,f]
/-- A rational number. -/
def rV (neg : Bool) (n d : Nat) : List VV := [.bool neg,.str (encB n),.str (encB d)]
theorem GoodS_spec (neg : Bool) (n d : Nat) (hn : n ≠ 0) (hd : d ≠ 0) (bn : n < 18446744073709551616) (bd : d < 18446744073709551616) (hg : Nat.gcd n d = 1) (lo : Nat) (h : VHeap) : callVL vp lo n_rat_Good [.agg (rV neg n d)] h = some (.bool true,h) := by
  refine call_valE (fn := rat_Good_v) rfl rfl rfl rfl rfl ?_ lo h
  have hG := GcdS_spec n d bn bd
  rw [hg,enc_one] at hG
  have i1 := @enc_is_one d
  obtain ⟨c,r,e1,hc⟩ := enc_cons hn
  obtain ⟨c',r',e2,hc'⟩ := enc_cons hd
  unfold rV
  rw [e1,e2] at hG ⊢
  rw [e2] at i1
  by_cases hd1 : d = 1
  · have e := i1.2 hd1
    injection e with e3 e4
    rw [e3,e4]
    rw [e3] at hc'
    simp -implicitDefEqProofs only [go_sem,↓reduceIte,reduceCtorEq,Int.reduceLT,Int.reduceLE,Int.reduceToNat,Nat.reduceAdd,Nat.reduceMul,Nat.reduceLeDiff,Nat.reduceLT,Nat.reduceSub,Int.reduceNeg,Int.reduceEq,Int.reduceBEq,Int.reduceBNe,Nat.reduceEqDiff,cons_nil,beq_self_eq_true,hc,hc']
  · have e := beq_ne (fun h => hd1 (i1.1 h))
    simp -implicitDefEqProofs only [go_sem,↓reduceIte,reduceCtorEq,Int.reduceLT,Int.reduceLE,Int.reduceToNat,Nat.reduceAdd,Nat.reduceMul,Nat.reduceLeDiff,Nat.reduceLT,Nat.reduceSub,Int.reduceNeg,Int.reduceEq,Int.reduceBEq,Int.reduceBNe,Nat.reduceEqDiff,cons_nil,beq_self_eq_true,hc,hc',e,hG]
end Vg.G3
namespace Vg.G3
open Go Lg Vg.Nm
set_option linter.unusedSimpArgs false
set_option linter.unusedVariables false
set_option maxRecDepth 10000
set_option maxHeartbeats 4000000
attribute [local congr] bind_congr1
attribute [local go_sem] rat_fit_r0 rat_fit_r1 rat_fit_r2 rat_fit_r3 rat_fit_f rat_fit_v rat_Sign_r0 rat_Sign_r1 rat_Sign_r2 rat_Sign_r3 rat_Sign_r4 rat_Sign_r5 rat_Sign_r6 rat_Sign_f rat_Sign_v rat_Small_r0 rat_Small_r1 rat_Small_r1_d rat_Small_f rat_Small_v

/-- A positive number in lowest terms,of few bytes. -/
structure GS (n d : Nat) : Prop where
  hn : n ≠ 0
  hd : d ≠ 0
  bn : n < 4294967296
  bd : d < 4294967296
  hg : Nat.gcd n d = 1
theorem GS.good {n d : Nat} (g : GS n d) (neg : Bool) (lo : Nat) (h : VHeap) : callVL vp lo n_rat_Good [.agg [.bool neg,.str (encB n),.str (encB d)]] h = some (.bool true,h) :=
  GoodS_spec neg n d g.hn g.hd (Nat.lt_trans g.bn (by decide)) (Nat.lt_trans g.bd (by decide)) g.hg lo h
theorem fitS_spec {n d : Nat} (g : GS n d) (neg : Bool) (lo : Nat) (h : VHeap) : callVL vp lo n_rat_fit [.agg [.bool neg,.str (encB n),.str (encB d)]] h = some (.agg [.bool neg,.str (encB n),.str (encB d)],h) := by
  refine call_valE (fn := rat_fit_v) rfl rfl rfl rfl rfl ?_ lo h
  have hG := g.good neg
  simp -implicitDefEqProofs only [go_sem,↓reduceIte,reduceCtorEq,Int.reduceLT,Int.reduceLE,Int.reduceToNat,Nat.reduceAdd,Nat.reduceMul,Nat.reduceLeDiff,Nat.reduceLT,Nat.reduceSub,Int.reduceNeg,Int.reduceEq,Int.reduceBEq,Int.reduceBNe,Nat.reduceEqDiff,hG]
theorem SignS_spec {n d : Nat} (g : GS n d) (neg : Bool) (lo : Nat) (h : VHeap) : callVL vp lo n_rat_Sign [.agg [.bool neg,.str (encB n),.str (encB d)]] h = some (.int .i64 (if neg then -1 else 1),h) := by
  refine call_valE (fn := rat_Sign_v) rfl rfl rfl rfl rfl ?_ lo h
  have hF := fitS_spec g neg
  have e := beq_ne (fun h => g.hn (enc_nil.1 h))
  cases neg
  all_goals simp -implicitDefEqProofs only [go_sem,↓reduceIte,reduceCtorEq,Int.reduceLT,Int.reduceLE,Int.reduceToNat,Nat.reduceAdd,Nat.reduceMul,Nat.reduceLeDiff,Nat.reduceLT,Nat.reduceSub,Int.reduceNeg,Int.reduceEq,Int.reduceBEq,Int.reduceBNe,Nat.reduceEqDiff,hF,e]
theorem cmpN_le {a b : Nat} (h : a ≤ b) : cmpN a b ≤ 0 := by
  unfold cmpN
  split
  · decide
  · rw [if_neg (by omega)]; decide
theorem SmallS_spec {n d : Nat} (g : GS n d) (neg : Bool) (bn : n ≤ 1000000) (bd : d ≤ 1000) (lo : Nat) (h : VHeap) : callVL vp lo n_rat_Small [.agg [.bool neg,.str (encB n),.str (encB d)]] h = some (.bool true,h) := by
  refine call_valE (fn := rat_Small_v) rfl rfl rfl rfl rfl ?_ lo h
  have hG := g.good neg
  have l1 : (encB n).length ≤ 3 := enc_len (Nat.lt_of_le_of_lt bn (by decide))
  have l2 : (encB d).length ≤ 2 := enc_len (Nat.lt_of_le_of_lt bd (by decide))
  have l1' : ((encB n).length : Int) ≤ 3 := by omega
  have l2' : ((encB d).length : Int) ≤ 2 := by omega
  have o1 := natOf_spec 1000000 (by decide)
  have o2 := natOf_spec 1000 (by decide)
  have l3 : (encB 1000000).length ≤ 8 := enc_len (by decide)
  have l4 : (encB 1000).length ≤ 8 := enc_len (by decide)
  have c1 := Cmp_spec (encB n) (encB 1000000) (by omega) (by omega)
  have c2 := Cmp_spec (encB d) (encB 1000) (by omega) (by omega)
  rw [val_enc,val_enc] at c1 c2
  have e1 : cmpN n 1000000 ≤ 0 := cmpN_le bn
  have e2 : cmpN d 1000 ≤ 0 := cmpN_le bd
  have k1 : ((1000000 : Nat) : Int) = 1000000 := rfl
  have k2 : ((1000 : Nat) : Int) = 1000 := rfl
  rw [k1] at o1
  rw [k2] at o2
  generalize encB 1000000 = A at *
  generalize encB 1000 = B at *
  simp -implicitDefEqProofs only [go_sem,↓reduceIte,reduceCtorEq,Int.reduceLT,Int.reduceLE,Int.reduceToNat,Nat.reduceAdd,Nat.reduceMul,Nat.reduceLeDiff,Nat.reduceLT,Nat.reduceSub,Int.reduceNeg,Int.reduceEq,Int.reduceBEq,Int.reduceBNe,Nat.reduceEqDiff,hG,l1',l2',o1,o2,c1,c2,e1,e2]
end Vg.G3
namespace Vg.G3
open Go Lg Vg.Nm
set_option linter.unusedSimpArgs false
set_option linter.unusedVariables false
set_option maxRecDepth 10000
set_option maxHeartbeats 4000000
attribute [local congr] bind_congr1
attribute [local go_sem] word_letter_r0 word_letter_r1 word_letter_f word_letter_v word_IsName_r0 word_IsName_r1 word_IsName_r2 word_IsName_r3 word_IsName_r4 word_IsName_r5 word_IsName_r6 word_IsName_r7 word_IsName_r8 word_IsName_r9 word_IsName_f word_IsName_v slices_Index_stringstring_r0 slices_Index_stringstring_r1 slices_Index_stringstring_r2 slices_Index_stringstring_r3 slices_Index_stringstring_r4 slices_Index_stringstring_r5 slices_Index_stringstring_r6 slices_Index_stringstring_r7 slices_Index_stringstring_f slices_Index_stringstring_v slices_Contains_stringstring_r0 slices_Contains_stringstring_r1 slices_Contains_stringstring_f slices_Contains_stringstring_v parse_keyword_r0 parse_keyword_r1 parse_keyword_f parse_keyword_v parse_Name_r0 parse_Name_r1 parse_Name_f parse_Name_v

def isLet (c : UInt8) : Prop := 97 ≤ (c.toNat : Int) ∧ (c.toNat : Int) ≤ 122
instance (c : UInt8) : Decidable (isLet c) := by unfold isLet; infer_instance
theorem letter_spec {c : UInt8} (hc : isLet c) (lo : Nat) (h : VHeap) : callVL vp lo n_word_letter [.int .u8 (c.toNat : Int)] h = some (.bool true,h) := by
  refine call_valE (fn := word_letter_v) rfl rfl rfl rfl rfl ?_ lo h
  have h1 := hc.1
  have h2 := hc.2
  simp -implicitDefEqProofs only [go_sem,↓reduceIte,reduceCtorEq,Int.reduceLT,Int.reduceLE,Int.reduceToNat,Nat.reduceAdd,Nat.reduceMul,Nat.reduceLeDiff,Nat.reduceLT,Nat.reduceSub,Int.reduceNeg,Int.reduceEq,Int.reduceBEq,Int.reduceBNe,Nat.reduceEqDiff,h1,h2]
theorem IsName_spec (s : List UInt8) (h0 : s ≠ []) (h12 : s.length ≤ 12) (hs : ∀ c ∈ s,isLet c) (lo : Nat) (h : VHeap) : callVL vp lo n_word_IsName [.str s] h = some (.bool true,h) := by
  refine call_valE (fn := word_IsName_v) rfl rfl rfl rfl rfl ?_ lo h
  obtain ⟨P,hP⟩ : ∃ P : VV → Prop,P = fun w : VV => w = .bool true := ⟨_,rfl⟩
  have hP1 : P (.bool true) := by subst hP; rfl
  have hP2 : (fun r : VV × VHeap => r.1 = .bool true) = fun r => P r.1 := by subst hP; rfl
  rw [hP2]
  clear hP hP2
  have l0 : ¬ ((s.length : Int) = 0) := by
    have : s.length ≠ 0 := fun h => h0 (List.length_eq_zero_iff.1 h)
    omega
  have l1 : ¬ (12 : Int) < (s.length : Int) := by omega
  simp -implicitDefEqProofs only [go_sem,↓reduceIte,reduceCtorEq,Int.reduceLT,Int.reduceLE,Int.reduceToNat,Nat.reduceAdd,Nat.reduceMul,Nat.reduceLeDiff,Nat.reduceLT,Nat.reduceSub,Int.reduceNeg,Int.reduceEq,Int.reduceBEq,Int.reduceBNe,Nat.reduceEqDiff,l0,l1]
  rw [Sat_bind]
  refine loop_up (I := fun i env h' => h' = [] ∧ env = [.str s,.undef,.undef,.undef,.undef,.undef,.undef,.undef,.undef,.undef,.undef,.undef,.undef,.int .i64 ((s.length : Nat) : Int),.int .i64 ((i : Nat) : Int),.undef,.undef,.undef,.undef,.undef,.undef,.undef,.undef]) s.length ?_ ?_ (Nat.zero_le _) ⟨rfl,by simp -implicitDefEqProofs only [go_sem,↓reduceIte,reduceCtorEq,Int.reduceLT,Int.reduceLE,Int.reduceToNat,Nat.reduceAdd,Nat.reduceMul,Nat.reduceLeDiff,Nat.reduceLT,Nat.reduceSub,Int.reduceNeg,Int.reduceEq,Int.reduceBEq,Int.reduceBNe,Nat.reduceEqDiff]⟩
  · rintro i env h' hi ⟨rfl,rfl⟩
    have hi' : (i : Int) < (s.length : Int) := by omega
    obtain ⟨c,hc⟩ : ∃ c,s[i]? = some c := ⟨s[i],List.getElem?_eq_getElem hi⟩
    have hl := letter_spec (hs c (List.mem_of_getElem? hc))
    have hw := wrap_succ (i := i) (by omega)
    simp -implicitDefEqProofs only [word_IsName_b0,go_sem,↓reduceIte,reduceCtorEq,Int.reduceLT,Int.reduceLE,Int.reduceToNat,Nat.reduceAdd,Nat.reduceMul,Nat.reduceLeDiff,Nat.reduceLT,Nat.reduceSub,Int.reduceNeg,Int.reduceEq,Int.reduceBEq,Int.reduceBNe,Nat.reduceEqDiff,hi',hc,hw,hl]
  · rintro env h' ⟨rfl,rfl⟩
    simp -implicitDefEqProofs only [word_IsName_b0,go_sem,↓reduceIte,reduceCtorEq,Int.reduceLT,Int.reduceLE,Int.reduceToNat,Nat.reduceAdd,Nat.reduceMul,Nat.reduceLeDiff,Nat.reduceLT,Nat.reduceSub,Int.reduceNeg,Int.reduceEq,Int.reduceBEq,Int.reduceBNe,Nat.reduceEqDiff,Int.lt_irrefl]
    exact hP1
theorem IndexS_none (l : List (List UInt8)) (x : List UInt8) (hl : l.length ≤ 100000) (hx : x ∉ l) (lo : Nat) (h : VHeap) : callVL vp lo n_slices_Index_stringstring [.list .s (l.map fun y => [.str y]),.str x] h = some (.int .i64 (-1),h) := by
  refine call_valE (fn := slices_Index_stringstring_v) rfl rfl rfl rfl rfl ?_ lo h
  obtain ⟨P,hP⟩ : ∃ P : VV → Prop,P = fun w : VV => w = .int .i64 (-1) := ⟨_,rfl⟩
  have hP1 : P (.int .i64 (-1)) := by subst hP; rfl
  have hP2 : (fun r : VV × VHeap => r.1 = .int .i64 (-1)) = fun r => P r.1 := by subst hP; rfl
  rw [hP2]
  clear hP hP2
  simp -implicitDefEqProofs only [go_sem,↓reduceIte,reduceCtorEq,Int.reduceLT,Int.reduceLE,Int.reduceToNat,Nat.reduceAdd,Nat.reduceMul,Nat.reduceLeDiff,Nat.reduceLT,Nat.reduceSub,Int.reduceNeg,Int.reduceEq,Int.reduceBEq,Int.reduceBNe,Nat.reduceEqDiff]
  rw [Sat_bind]
  refine loop_up (I := fun i env h' => h' = [] ∧ env = [.list .s (l.map fun y => [.str y]),.str x,.undef,.undef,.undef,.undef,.undef,.int .i64 ((l.length : Nat) : Int),.int .i64 ((i : Nat) : Int),.undef,.undef,.undef,.undef,.undef,.undef,.undef,.undef,.undef,.undef]) l.length ?_ ?_ (Nat.zero_le _) ⟨rfl,by simp -implicitDefEqProofs only [go_sem,↓reduceIte,reduceCtorEq,Int.reduceLT,Int.reduceLE,Int.reduceToNat,Nat.reduceAdd,Nat.reduceMul,Nat.reduceLeDiff,Nat.reduceLT,Nat.reduceSub,Int.reduceNeg,Int.reduceEq,Int.reduceBEq,Int.reduceBNe,Nat.reduceEqDiff]⟩
  · rintro i env h' hi ⟨rfl,rfl⟩
    have hi' : (i : Int) < (l.length : Int) := by omega
    obtain ⟨y,hy⟩ : ∃ y,l[i]? = some y := ⟨l[i],List.getElem?_eq_getElem hi⟩
    have hw := wrap_succ (i := i) (by omega)
    have hg := get_map (F := fun y => [VV.str y]) hy
    have e : (x == y) = false := beq_ne (fun e => hx (e ▸ List.mem_of_getElem? hy))
    simp -implicitDefEqProofs only [slices_Index_stringstring_b0,go_sem,↓reduceIte,reduceCtorEq,Int.reduceLT,Int.reduceLE,Int.reduceToNat,Nat.reduceAdd,Nat.reduceMul,Nat.reduceLeDiff,Nat.reduceLT,Nat.reduceSub,Int.reduceNeg,Int.reduceEq,Int.reduceBEq,Int.reduceBNe,Nat.reduceEqDiff,hi',hg,hw,e]
  · rintro env h' ⟨rfl,rfl⟩
    simp -implicitDefEqProofs only [slices_Index_stringstring_b0,go_sem,↓reduceIte,reduceCtorEq,Int.reduceLT,Int.reduceLE,Int.reduceToNat,Nat.reduceAdd,Nat.reduceMul,Nat.reduceLeDiff,Nat.reduceLT,Nat.reduceSub,Int.reduceNeg,Int.reduceEq,Int.reduceBEq,Int.reduceBNe,Nat.reduceEqDiff,Int.lt_irrefl]
    exact hP1
def kws : List (List UInt8) := [[106,111,98],[112,117,116],[105,110],[119,105,116,104,105,110],[104,111,108,100],[119,105,116,104],[102,114,101,101],[115,101,101],[119,97,105,116],[100,111],[114,101,112,101,97,116],[97,110,121],[111,114],[116,114,121],[101,108,115,101]]
theorem keyword_spec (s : List UInt8) (hs : s ∉ kws) (lo : Nat) (h : VHeap) : callVL vp lo n_parse_keyword [.str s] h = some (.bool false,h) := by
  refine call_valE (fn := parse_keyword_v) rfl rfl rfl rfl rfl ?_ lo h
  have hI := IndexS_none kws s (by decide) hs
  have hC : ∀ (lo : Nat) (h : VHeap),callVL vp lo n_slices_Contains_stringstring [.list .s (kws.map fun y => [.str y]),.str s] h = some (.bool false,h) := by
    intro lo h
    refine call_valE (fn := slices_Contains_stringstring_v) rfl rfl rfl rfl rfl ?_ lo h
    simp -implicitDefEqProofs only [go_sem,↓reduceIte,reduceCtorEq,Int.reduceLT,Int.reduceLE,Int.reduceToNat,Nat.reduceAdd,Nat.reduceMul,Nat.reduceLeDiff,Nat.reduceLT,Nat.reduceSub,Int.reduceNeg,Int.reduceEq,Int.reduceBEq,Int.reduceBNe,Nat.reduceEqDiff,hI]
  simp only [kws,List.map_cons,List.map_nil] at hC
  simp -implicitDefEqProofs only [go_sem,↓reduceIte,reduceCtorEq,Int.reduceLT,Int.reduceLE,Int.reduceToNat,Nat.reduceAdd,Nat.reduceMul,Nat.reduceLeDiff,Nat.reduceLT,Nat.reduceSub,Int.reduceNeg,Int.reduceEq,Int.reduceBEq,Int.reduceBNe,Nat.reduceEqDiff,hC]
theorem Name_spec (s : List UInt8) (h0 : s ≠ []) (h12 : s.length ≤ 12) (hs : ∀ c ∈ s,isLet c) (hk : s ∉ kws) (lo : Nat) (h : VHeap) : callVL vp lo n_parse_Name [.str s] h = some (.bool true,h) := by
  refine call_valE (fn := parse_Name_v) rfl rfl rfl rfl rfl ?_ lo h
  have hI := IsName_spec s h0 h12 hs
  have hK := keyword_spec s hk
  simp -implicitDefEqProofs only [go_sem,↓reduceIte,reduceCtorEq,Int.reduceLT,Int.reduceLE,Int.reduceToNat,Nat.reduceAdd,Nat.reduceMul,Nat.reduceLeDiff,Nat.reduceLT,Nat.reduceSub,Int.reduceNeg,Int.reduceEq,Int.reduceBEq,Int.reduceBNe,Nat.reduceEqDiff,hI,hK]
end Vg.G3
namespace Vg.G3
open Go Lg Vg.Nm
set_option linter.unusedSimpArgs false
set_option linter.unusedVariables false
set_option maxRecDepth 10000
set_option maxHeartbeats 4000000
attribute [local congr] bind_congr1
attribute [local go_sem] parse_plain_r0 parse_plain_r1 parse_plain_r2 parse_plain_r3 parse_plain_r4 parse_plain_r5 parse_plain_r6 parse_plain_r7 parse_plain_r8 parse_plain_r9 parse_plain_r10 parse_plain_r11 parse_plain_f parse_plain_v

/-- A text that can be a name. -/
structure NM (s : List UInt8) : Prop where
  h0 : s ≠ []
  h12 : s.length ≤ 12
  hs : ∀ c ∈ s,isLet c
  hk : s ∉ kws
theorem NM.name {s : List UInt8} (g : NM s) (lo : Nat) (h : VHeap) : callVL vp lo n_parse_Name [.str s] h = some (.bool true,h) := Name_spec s g.h0 g.h12 g.hs g.hk lo h
/-- Put a in b within n / d. -/
def putV (a b : List UInt8) (n d : Nat) : List VV := [.int .i64 1,.str a,.str b,.bool false,.str (encB n),.str (encB d),.int .i64 0,.list .s []]
theorem plain_put {a b : List UInt8} {n d : Nat} (ha : NM a) (hb : NM b) (g : GS n d) (bn : n ≤ 1000000) (bd : d ≤ 1000) (lo : Nat) (h : VHeap) : callVL vp lo n_parse_plain [.agg (putV a b n d)] h = some (.int .i64 0,h) := by
  refine call_valE (fn := parse_plain_v) rfl rfl rfl rfl rfl ?_ lo h
  unfold putV
  have n1 := ha.name
  have n2 := hb.name
  have e1 := beq_ne ha.h0
  have e2 := beq_ne hb.h0
  have g1 := g.good false
  have g2 := SignS_spec g false
  have g3 := SmallS_spec g false bn bd
  have en := beq_ne (fun h => g.hn (enc_nil.1 h))
  have ed := beq_ne (fun h => g.hd (enc_nil.1 h))
  have p1 : ¬ ((1 : Int) ≤ 0) := by decide
  simp -implicitDefEqProofs (maxSteps := 1000000) only [go_sem,↓reduceIte,reduceCtorEq,Int.reduceLT,Int.reduceLE,Int.reduceToNat,Nat.reduceAdd,Nat.reduceMul,Nat.reduceLeDiff,Nat.reduceLT,Nat.reduceSub,Int.reduceNeg,Int.reduceEq,Int.reduceBEq,Int.reduceBNe,Nat.reduceEqDiff,n1,n2,e1,e2,g1,g2,g3,en,ed,p1]
end Vg.G3
