import Derived.Test.YtpclbojoknhnlaaDoorVP2
namespace Vg.G3
open Go Lg Vg.Nm
set_option linter.unusedSimpArgs false
set_option linter.unusedVariables false
set_option maxRecDepth 10000
set_option maxHeartbeats 4000000
attribute [local congr] bind_congr1
attribute [local go_sem] nat_common_r0 nat_common_r1 nat_common_r2 nat_common_r2_d nat_common_r3 nat_common_f nat_common_v nat_Gcd_r0 nat_Gcd_r1 nat_Gcd_r2 nat_Gcd_r3 nat_Gcd_r4 nat_Gcd_r5 nat_Gcd_r6 nat_Gcd_r7 nat_Gcd_r8 nat_Gcd_r9 nat_Gcd_r10 nat_Gcd_r11 nat_Gcd_f nat_Gcd_v rat_Good_r0 rat_Good_r1 rat_Good_r2 rat_Good_r3 rat_Good_f rat_Good_v

theorem common_spec (x y : Nat) (hx : x < 18446744073709551616) (hy : y < 18446744073709551616) (lo : Nat) (h : VHeap) : callVL vp lo n_nat_common [.int .u64 (x : Int), .int .u64 (y : Int)] h = some (.int .u64 ((Nat.gcd x y : Nat) : Int), h) := by
  refine call_valE (fn := nat_common_v) rfl rfl rfl rfl rfl ?_ lo h
  generalize hT : Nat.gcd x y = T
  obtain ⟨P, hP⟩ : ∃ P : VV → Prop, P = fun w : VV => w = .int .u64 (T : Int) := ⟨_, rfl⟩
  have hP1 : P (.int .u64 (T : Int)) := by subst hP; rfl
  have hP2 : (fun r : VV × VHeap => r.1 = .int .u64 (T : Int)) = fun r => P r.1 := by subst hP; rfl
  rw [hP2]
  clear hP hP2
  simp -implicitDefEqProofs only [go_sem, ↓reduceIte, reduceCtorEq, Int.reduceLT, Int.reduceLE, Int.reduceToNat, Nat.reduceAdd, Nat.reduceMul, Nat.reduceLeDiff, Nat.reduceLT, Nat.reduceSub, Int.reduceNeg, Int.reduceEq, Int.reduceBEq, Int.reduceBNe, Nat.reduceEqDiff]
  rw [Sat_bind]
  refine loop_down (I := fun i env h' => ∃ x : Nat, Nat.gcd x i = T ∧ h' = [] ∧ env = [.int .u64 (x : Int), .int .u64 (i : Int), .undef, .undef, .undef, .undef, .undef, .undef, .undef, .undef, .undef, .undef]) ?_ (i := y) ⟨x, hT, rfl, by simp -implicitDefEqProofs only [go_sem, ↓reduceIte, reduceCtorEq, Int.reduceLT, Int.reduceLE, Int.reduceToNat, Nat.reduceAdd, Nat.reduceMul, Nat.reduceLeDiff, Nat.reduceLT, Nat.reduceSub, Int.reduceNeg, Int.reduceEq, Int.reduceBEq, Int.reduceBNe, Nat.reduceEqDiff]⟩
  clear hT hx
  rintro i env h' ⟨x, hg, rfl, rfl⟩
  by_cases h0 : (0 : Int) < (i : Int)
  · have hne : ¬ ((i : Int) = 0) := by omega
    have hm : (x : Int).tmod (i : Int) = ((x % i : Nat) : Int) := by
      rw [Int.tmod_eq_emod_of_nonneg (by omega)]; rfl
    simp -implicitDefEqProofs only [nat_common_b0, go_sem, ↓reduceIte, reduceCtorEq, Int.reduceLT, Int.reduceLE, Int.reduceToNat, Nat.reduceAdd, Nat.reduceMul, Nat.reduceLeDiff, Nat.reduceLT, Nat.reduceSub, Int.reduceNeg, Int.reduceEq, Int.reduceBEq, Int.reduceBNe, Nat.reduceEqDiff, h0, hne, hm]
    exact ⟨x % i, Nat.mod_lt _ (by omega), i, by rw [← hg, Nat.gcd_comm x i, Nat.gcd_rec i x, Nat.gcd_comm], rfl⟩
  · obtain rfl : i = 0 := by omega
    rw [Nat.gcd_zero_right] at hg
    subst hg
    have h0' : ¬ ((0 : Int) < ((0 : Nat) : Int)) := by decide
    simp -implicitDefEqProofs only [nat_common_b0, go_sem, ↓reduceIte, reduceCtorEq, Int.reduceLT, Int.reduceLE, Int.reduceToNat, Nat.reduceAdd, Nat.reduceMul, Nat.reduceLeDiff, Nat.reduceLT, Nat.reduceSub, Int.reduceNeg, Int.reduceEq, Int.reduceBEq, Int.reduceBNe, Nat.reduceEqDiff, h0', Int.lt_irrefl]
    exact hP1
theorem enc_nil {n : Nat} : encB n = [] ↔ n = 0 := ⟨fun h => by rw [← val_enc n, h]; rfl, fun h => by rw [h, encB_zero]⟩
theorem enc_cons {n : Nat} (h : n ≠ 0) : ∃ c r, encB n = c :: r ∧ ¬ ((c.toNat : Int) = 0) := by
  have hc := enc_canon n
  cases he : encB n with
  | nil => exact absurd (enc_nil.1 he) h
  | cons c r =>
    rw [he] at hc
    exact ⟨c, r, rfl, fun h => hc (by apply UInt8.toNat_inj.1; simpa using h)⟩
theorem enc_one : encB 1 = [1] := by rw [encB_pos (by decide)]; rw [show 1 / 256 = 0 by decide, encB_zero]; rfl
theorem enc_is_one {n : Nat} : encB n = [1] ↔ n = 1 := ⟨fun h => by rw [← val_enc n, h]; rfl, fun h => by rw [h, enc_one]⟩
theorem trim_id {n : Nat} : trimB (encB n) = encB n := by rw [trim_enc, val_enc]
theorem cons_nil (c : UInt8) (r : List UInt8) : (c :: r == []) = false := rfl
theorem nil_nil : (([] : List UInt8) == []) = true := rfl
theorem beq_ne {a b : List UInt8} (h : ¬ a = b) : (a == b) = false := by simpa using h
/-- Numbers of at most 8 bytes. -/
theorem GcdS_spec (m n : Nat) (hm : m < 18446744073709551616) (hn : n < 18446744073709551616) (lo : Nat) (h : VHeap) : callVL vp lo n_nat_Gcd [.str (encB m), .str (encB n)] h = some (.str (encB (Nat.gcd m n)), h) := by
  refine call_valE (fn := nat_Gcd_v) rfl rfl rfl rfl rfl ?_ lo h
  have h1 := trim_spec (encB m)
  have h2 := trim_spec (encB n)
  rw [trim_id] at h1 h2
  have h8 : (256 : Nat) ^ 8 = 18446744073709551616 := by decide
  have lm : (encB m).length ≤ 8 := enc_len (by omega)
  have ln : (encB n).length ≤ 8 := enc_len (by omega)
  have s1 := short_spec (encB m) lm
  have s2 := short_spec (encB n) ln
  rw [val_enc] at s1 s2
  by_cases hm0 : m = 0
  · subst hm0
    rw [Nat.gcd_zero_left]
    rw [encB_zero] at *
    have ha : (encB n).length ≤ 4611686018427387904 := by omega
    simp -implicitDefEqProofs only [nat_Gcd_b0, go_sem, ↓reduceIte, reduceCtorEq, Int.reduceLT, Int.reduceLE, Int.reduceToNat, Nat.reduceAdd, Nat.reduceMul, Nat.reduceLeDiff, Nat.reduceLT, Nat.reduceSub, Int.reduceNeg, Int.reduceEq, Int.reduceBEq, Int.reduceBNe, Nat.reduceEqDiff, loopV_eq, ↓thenV_norm, ↓thenV_exit, ↓thenV_ret, cons_nil, nil_nil, h1, h2, binE_sadd, ha]
  obtain ⟨c, r, e1, _⟩ := enc_cons hm0
  rw [e1] at lm h1 s1 ⊢
  by_cases hn0 : n = 0
  · subst hn0
    rw [Nat.gcd_zero_right, e1]
    rw [encB_zero] at *
    have ha : (c :: r).length ≤ 4611686018427387904 := by omega
    rw [List.length_cons] at ha
    simp -implicitDefEqProofs only [nat_Gcd_b0, go_sem, ↓reduceIte, reduceCtorEq, Int.reduceLT, Int.reduceLE, Int.reduceToNat, Nat.reduceAdd, Nat.reduceMul, Nat.reduceLeDiff, Nat.reduceLT, Nat.reduceSub, Int.reduceNeg, Int.reduceEq, Int.reduceBEq, Int.reduceBNe, Nat.reduceEqDiff, loopV_eq, ↓thenV_norm, ↓thenV_exit, ↓thenV_ret, cons_nil, nil_nil, h1, h2, binE_sadd, ha]
  obtain ⟨c', r', e2, _⟩ := enc_cons hn0
  rw [e2] at ln h2 s2 ⊢
  have lm' : (((r.length + 1 : Nat) : Int)) ≤ 8 := by rw [List.length_cons] at lm; omega
  have ln' : (((r'.length + 1 : Nat) : Int)) ≤ 8 := by rw [List.length_cons] at ln; omega
  have hg : Nat.gcd m n < 18446744073709551616 := Nat.lt_of_le_of_lt (Nat.gcd_le_left _ (by omega)) hm
  have f := fromShort_spec _ hg
  by_cases hl : ((r.length + 1 : Nat) : Int) < ((r'.length + 1 : Nat) : Int)
  · have c := common_spec n m hn hm
    rw [Nat.gcd_comm] at c
    simp -implicitDefEqProofs only [nat_Gcd_b0, go_sem, ↓reduceIte, reduceCtorEq, Int.reduceLT, Int.reduceLE, Int.reduceToNat, Nat.reduceAdd, Nat.reduceMul, Nat.reduceLeDiff, Nat.reduceLT, Nat.reduceSub, Int.reduceNeg, Int.reduceEq, Int.reduceBEq, Int.reduceBNe, Nat.reduceEqDiff, loopV_eq, ↓thenV_norm, ↓thenV_exit, ↓thenV_ret, cons_nil, nil_nil, h1, h2, hl, ln', s1, s2, c, f]
  · have c := common_spec m n hm hn
    simp -implicitDefEqProofs only [nat_Gcd_b0, go_sem, ↓reduceIte, reduceCtorEq, Int.reduceLT, Int.reduceLE, Int.reduceToNat, Nat.reduceAdd, Nat.reduceMul, Nat.reduceLeDiff, Nat.reduceLT, Nat.reduceSub, Int.reduceNeg, Int.reduceEq, Int.reduceBEq, Int.reduceBNe, Nat.reduceEqDiff, loopV_eq, ↓thenV_norm, ↓thenV_exit, ↓thenV_ret, cons_nil, nil_nil, h1, h2, hl, lm', s1, s2, c, f]
/-- A rational number. -/
def rV (neg : Bool) (n d : Nat) : List VV := [.bool neg, .str (encB n), .str (encB d)]
theorem GoodS_spec (neg : Bool) (n d : Nat) (hn : n ≠ 0) (hd : d ≠ 0) (bn : n < 18446744073709551616) (bd : d < 18446744073709551616) (hg : Nat.gcd n d = 1) (lo : Nat) (h : VHeap) : callVL vp lo n_rat_Good [.agg (rV neg n d)] h = some (.bool true, h) := by
  refine call_valE (fn := rat_Good_v) rfl rfl rfl rfl rfl ?_ lo h
  have hG := GcdS_spec n d bn bd
  rw [hg, enc_one] at hG
  have i1 := @enc_is_one d
  obtain ⟨c, r, e1, hc⟩ := enc_cons hn
  obtain ⟨c', r', e2, hc'⟩ := enc_cons hd
  unfold rV
  rw [e1, e2] at hG ⊢
  rw [e2] at i1
  by_cases hd1 : d = 1
  · have e := i1.2 hd1
    injection e with e3 e4
    rw [e3, e4]
    rw [e3] at hc'
    simp -implicitDefEqProofs only [go_sem, ↓reduceIte, reduceCtorEq, Int.reduceLT, Int.reduceLE, Int.reduceToNat, Nat.reduceAdd, Nat.reduceMul, Nat.reduceLeDiff, Nat.reduceLT, Nat.reduceSub, Int.reduceNeg, Int.reduceEq, Int.reduceBEq, Int.reduceBNe, Nat.reduceEqDiff, cons_nil, beq_self_eq_true, hc, hc']
  · have e := beq_ne (fun h => hd1 (i1.1 h))
    simp -implicitDefEqProofs only [go_sem, ↓reduceIte, reduceCtorEq, Int.reduceLT, Int.reduceLE, Int.reduceToNat, Nat.reduceAdd, Nat.reduceMul, Nat.reduceLeDiff, Nat.reduceLT, Nat.reduceSub, Int.reduceNeg, Int.reduceEq, Int.reduceBEq, Int.reduceBNe, Nat.reduceEqDiff, cons_nil, beq_self_eq_true, hc, hc', e, hG]
end Vg.G3
namespace Vg.G3
open Go Lg Vg.Nm
set_option linter.unusedSimpArgs false
set_option linter.unusedVariables false
set_option maxRecDepth 10000
set_option maxHeartbeats 4000000
attribute [local congr] bind_congr1
attribute [local go_sem] rat_fit_r0 rat_fit_r1 rat_fit_r2 rat_fit_r3 rat_fit_f rat_fit_v rat_Sign_r0 rat_Sign_r1 rat_Sign_r2 rat_Sign_r3 rat_Sign_r4 rat_Sign_r5 rat_Sign_r6 rat_Sign_f rat_Sign_v rat_Cmp_r0 rat_Cmp_r1 rat_Cmp_r1_d rat_Cmp_r2 rat_Cmp_r3 rat_Cmp_r4 rat_Cmp_r5 rat_Cmp_r6 rat_Cmp_r6_d rat_Cmp_r7 rat_Cmp_r8 rat_Cmp_r9 rat_Cmp_f rat_Cmp_v rat_Small_r0 rat_Small_r1 rat_Small_r1_d rat_Small_f rat_Small_v

/-- A positive number in lowest terms, of few bytes. -/
structure GS (n d : Nat) : Prop where
  hn : n ≠ 0
  hd : d ≠ 0
  bn : n < 4294967296
  bd : d < 4294967296
  hg : Nat.gcd n d = 1
theorem GS.good {n d : Nat} (g : GS n d) (neg : Bool) (lo : Nat) (h : VHeap) : callVL vp lo n_rat_Good [.agg [.bool neg, .str (encB n), .str (encB d)]] h = some (.bool true, h) :=
  GoodS_spec neg n d g.hn g.hd (Nat.lt_trans g.bn (by decide)) (Nat.lt_trans g.bd (by decide)) g.hg lo h
theorem fitS_spec {n d : Nat} (g : GS n d) (neg : Bool) (lo : Nat) (h : VHeap) : callVL vp lo n_rat_fit [.agg [.bool neg, .str (encB n), .str (encB d)]] h = some (.agg [.bool neg, .str (encB n), .str (encB d)], h) := by
  refine call_valE (fn := rat_fit_v) rfl rfl rfl rfl rfl ?_ lo h
  have hG := g.good neg
  simp -implicitDefEqProofs only [go_sem, ↓reduceIte, reduceCtorEq, Int.reduceLT, Int.reduceLE, Int.reduceToNat, Nat.reduceAdd, Nat.reduceMul, Nat.reduceLeDiff, Nat.reduceLT, Nat.reduceSub, Int.reduceNeg, Int.reduceEq, Int.reduceBEq, Int.reduceBNe, Nat.reduceEqDiff, hG]
theorem SignS_spec {n d : Nat} (g : GS n d) (neg : Bool) (lo : Nat) (h : VHeap) : callVL vp lo n_rat_Sign [.agg [.bool neg, .str (encB n), .str (encB d)]] h = some (.int .i64 (if neg then -1 else 1), h) := by
  refine call_valE (fn := rat_Sign_v) rfl rfl rfl rfl rfl ?_ lo h
  have hF := fitS_spec g neg
  have e := beq_ne (fun h => g.hn (enc_nil.1 h))
  cases neg
  all_goals simp -implicitDefEqProofs only [go_sem, ↓reduceIte, reduceCtorEq, Int.reduceLT, Int.reduceLE, Int.reduceToNat, Nat.reduceAdd, Nat.reduceMul, Nat.reduceLeDiff, Nat.reduceLT, Nat.reduceSub, Int.reduceNeg, Int.reduceEq, Int.reduceBEq, Int.reduceBNe, Nat.reduceEqDiff, hF, e]
theorem enc4 {n : Nat} (h : n < 4294967296) : (encB n).length ≤ 4 := enc_len (Nat.lt_of_lt_of_le h (by decide))
theorem CmpS_spec {n d m e : Nat} (g : GS n d) (k : GS m e) (lo : Nat) (h : VHeap) : callVL vp lo n_rat_Cmp [.agg [.bool false, .str (encB n), .str (encB d)], .agg [.bool false, .str (encB m), .str (encB e)]] h = some (.int .i64 (cmpN (n * e) (m * d)), h) := by
  refine call_valE (fn := rat_Cmp_v) rfl rfl rfl rfl rfl ?_ lo h
  have h1 := fitS_spec g false
  have h2 := fitS_spec k false
  have ln := enc4 g.bn
  have ld := enc4 g.bd
  have lm := enc4 k.bn
  have le := enc4 k.bd
  have m1 := MulS_spec (encB n) (encB e) (by omega)
  have m2 := MulS_spec (encB m) (encB d) (by omega)
  rw [val_enc, val_enc] at m1 m2
  have p1 : n * e < 18446744073709551616 := Nat.lt_of_lt_of_le (Nat.mul_lt_mul'' g.bn k.bd) (by decide)
  have p2 : m * d < 18446744073709551616 := Nat.lt_of_lt_of_le (Nat.mul_lt_mul'' k.bn g.bd) (by decide)
  have h8 : (256 : Nat) ^ 8 = 18446744073709551616 := by decide
  have l1 : (encB (n * e)).length ≤ 8 := enc_len (by omega)
  have l2 : (encB (m * d)).length ≤ 8 := enc_len (by omega)
  have c := Cmp_spec (encB (n * e)) (encB (m * d)) (by omega) (by omega)
  rw [val_enc, val_enc] at c
  simp -implicitDefEqProofs only [go_sem, ↓reduceIte, reduceCtorEq, Int.reduceLT, Int.reduceLE, Int.reduceToNat, Nat.reduceAdd, Nat.reduceMul, Nat.reduceLeDiff, Nat.reduceLT, Nat.reduceSub, Int.reduceNeg, Int.reduceEq, Int.reduceBEq, Int.reduceBNe, Nat.reduceEqDiff, h1, h2, m1, m2, c]
theorem cmpN_le {a b : Nat} (h : a ≤ b) : cmpN a b ≤ 0 := by
  unfold cmpN
  split
  · decide
  · rw [if_neg (by omega)]; decide
theorem SmallS_spec {n d : Nat} (g : GS n d) (neg : Bool) (bn : n ≤ 1000000) (bd : d ≤ 1000) (lo : Nat) (h : VHeap) : callVL vp lo n_rat_Small [.agg [.bool neg, .str (encB n), .str (encB d)]] h = some (.bool true, h) := by
  refine call_valE (fn := rat_Small_v) rfl rfl rfl rfl rfl ?_ lo h
  have hG := g.good neg
  have l1 : (encB n).length ≤ 3 := enc_len (Nat.lt_of_le_of_lt bn (by decide))
  have l2 : (encB d).length ≤ 2 := enc_len (Nat.lt_of_le_of_lt bd (by decide))
  have l1' : ((encB n).length : Int) ≤ 3 := by omega
  have l2' : ((encB d).length : Int) ≤ 2 := by omega
  have o1 := natOf_spec 1000000 (by decide)
  have o2 := natOf_spec 1000 (by decide)
  have l3 : (encB 1000000).length ≤ 8 := enc_len (by decide)
  have l4 : (encB 1000).length ≤ 8 := enc_len (by decide)
  have c1 := Cmp_spec (encB n) (encB 1000000) (by omega) (by omega)
  have c2 := Cmp_spec (encB d) (encB 1000) (by omega) (by omega)
  rw [val_enc, val_enc] at c1 c2
  have e1 : cmpN n 1000000 ≤ 0 := cmpN_le bn
  have e2 : cmpN d 1000 ≤ 0 := cmpN_le bd
  have k1 : ((1000000 : Nat) : Int) = 1000000 := rfl
  have k2 : ((1000 : Nat) : Int) = 1000 := rfl
  rw [k1] at o1
  rw [k2] at o2
  generalize encB 1000000 = A at *
  generalize encB 1000 = B at *
  simp -implicitDefEqProofs only [go_sem, ↓reduceIte, reduceCtorEq, Int.reduceLT, Int.reduceLE, Int.reduceToNat, Nat.reduceAdd, Nat.reduceMul, Nat.reduceLeDiff, Nat.reduceLT, Nat.reduceSub, Int.reduceNeg, Int.reduceEq, Int.reduceBEq, Int.reduceBNe, Nat.reduceEqDiff, hG, l1', l2', o1, o2, c1, c2, e1, e2]
end Vg.G3
