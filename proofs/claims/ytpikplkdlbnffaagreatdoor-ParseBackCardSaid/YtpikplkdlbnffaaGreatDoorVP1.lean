import Derived.Test.YtpikplkdlbnffaaGreatDoorVG3
import Derived.Test.YtpikplkdlbnffaaGreatDoorVVgRows
import Derived.Test.YtpikplkdlbnffaaGreatDoorVVgBits
import Derived.Test.YtpikplkdlbnffaaGreatDoorVN3
namespace Vg.G3
open Go Lg Vg.Nm
set_option linter.unusedSimpArgs false
set_option linter.unusedVariables false
set_option maxRecDepth 10000
set_option maxHeartbeats 4000000
attribute [local congr] bind_congr1
attribute [local go_sem] nat_trim_r0 nat_trim_r1 nat_trim_r2 nat_trim_r3 nat_trim_f nat_trim_v nat_short_r0 nat_short_r1 nat_short_r2 nat_short_r3 nat_short_r4 nat_short_r5 nat_short_r6 nat_short_r7 nat_short_f nat_short_v nat_fromShort_r0 nat_fromShort_r1 nat_fromShort_r2 nat_fromShort_r3 nat_fromShort_r4 nat_fromShort_r5 nat_fromShort_r6 nat_fromShort_r7 nat_fromShort_f nat_fromShort_v

theorem trim_spec (a : List UInt8) (lo : Nat) (h : VHeap) : callVL vp lo n_nat_trim [.str a] h = some (.str (trimB a),h) := by
  refine call_valE (fn := nat_trim_v) rfl rfl rfl rfl rfl ?_ lo h
  generalize hT : trimB a = T
  obtain ⟨P,hP⟩ : ∃ P : VV → Prop,P = fun w : VV => w = .str T := ⟨_,rfl⟩
  have hP1 : P (.str T) := by subst hP; rfl
  have hP2 : (fun r : VV × VHeap => r.1 = .str T) = fun r => P r.1 := by subst hP; rfl
  rw [hP2]
  clear hP hP2
  simp -implicitDefEqProofs only [go_sem,↓reduceIte,reduceCtorEq,Int.reduceLT,Int.reduceLE,Int.reduceToNat,Nat.reduceAdd,Nat.reduceMul,Nat.reduceLeDiff,Nat.reduceLT,Nat.reduceSub,Int.reduceNeg,Int.reduceEq,Int.reduceBEq,Int.reduceBNe,Nat.reduceEqDiff]
  rw [Sat_bind]
  refine loop_down (I := fun i env h' => ∃ s : List UInt8,s.length = i ∧ h' = [] ∧ trimB s = T ∧ env = [.str s,.undef,.undef,.undef,.undef,.undef,.undef,.undef,.undef,.undef,.undef,.undef,.undef,.undef]) ?_ (i := a.length) ⟨a,rfl,rfl,hT,by simp -implicitDefEqProofs only [go_sem,↓reduceIte,reduceCtorEq,Int.reduceLT,Int.reduceLE,Int.reduceToNat,Nat.reduceAdd,Nat.reduceMul,Nat.reduceLeDiff,Nat.reduceLT,Nat.reduceSub,Int.reduceNeg,Int.reduceEq,Int.reduceBEq,Int.reduceBNe,Nat.reduceEqDiff]⟩
  rintro i env h' ⟨s,rfl,rfl,hs,rfl⟩
  cases s with
  | nil =>
    simp only [trimB] at hs
    subst hs
    simp -implicitDefEqProofs only [nat_trim_b0,go_sem,↓reduceIte,reduceCtorEq,Int.reduceLT,Int.reduceLE,Int.reduceToNat,Nat.reduceAdd,Nat.reduceMul,Nat.reduceLeDiff,Nat.reduceLT,Nat.reduceSub,Int.reduceNeg,Int.reduceEq,Int.reduceBEq,Int.reduceBNe,Nat.reduceEqDiff,Int.lt_irrefl]
    exact hP1
  | cons c s =>
    have hp : (0 : Int) < ((s.length + 1 : Nat) : Int) := by omega
    by_cases e : c = 0
    · subst e
      simp only [trimB,if_true] at hs
      have h00 : ((UInt8.toNat 0 : Nat) : Int) = 0 := rfl
      simp -implicitDefEqProofs only [nat_trim_b0,go_sem,↓reduceIte,reduceCtorEq,Int.reduceLT,Int.reduceLE,Int.reduceToNat,Nat.reduceAdd,Nat.reduceMul,Nat.reduceLeDiff,Nat.reduceLT,Nat.reduceSub,Int.reduceNeg,Int.reduceEq,Int.reduceBEq,Int.reduceBNe,Nat.reduceEqDiff,hp,h00]
      exact ⟨s.length,Nat.lt_succ_self _,s,rfl,hs,rfl⟩
    · simp only [trimB,e,if_false] at hs
      subst hs
      have e' : ¬ ((c.toNat : Int) = 0) := fun h => e (by apply UInt8.toNat_inj.1; simpa using h)
      simp -implicitDefEqProofs only [nat_trim_b0,go_sem,↓reduceIte,reduceCtorEq,Int.reduceLT,Int.reduceLE,Int.reduceToNat,Nat.reduceAdd,Nat.reduceMul,Nat.reduceLeDiff,Nat.reduceLT,Nat.reduceSub,Int.reduceNeg,Int.reduceEq,Int.reduceBEq,Int.reduceBNe,Nat.reduceEqDiff,hp,e']
      exact hP1
theorem shl8 {n : Nat} (h : n * 256 < 18446744073709551616) : binE .shl (.int .u64 (n : Int)) (.int .u64 8) = some (.int .u64 ((n * 256 : Nat) : Int)) := by
  have := shl64 (n := n) (k := 8) (by omega) h
  rw [binE_shl] at this ⊢
  exact this
theorem or8 {n : Nat} {c : UInt8} (h : n * 256 < 18446744073709551616) : binE .or (.int .u64 ((n * 256 : Nat) : Int)) (.int .u64 (c.toNat : Int)) = some (.int .u64 ((256 * n + c.toNat : Nat) : Int)) := by
  have hc := u8_lt c
  rw [or64 h (by omega),show n * 256 = n * 2 ^ 8 from rfl,or_add (k := 8) hc,show n * 2 ^ 8 + c.toNat = 256 * n + c.toNat by rw [Nat.mul_comm]]
theorem short_spec (a : List UInt8) (ha : a.length ≤ 8) (lo : Nat) (h : VHeap) : callVL vp lo n_nat_short [.str a] h = some (.int .u64 ((valB a : Nat) : Int),h) := by
  refine call_valE (fn := nat_short_v) rfl rfl rfl rfl rfl ?_ lo h
  generalize hT : valB a = T
  obtain ⟨P,hP⟩ : ∃ P : VV → Prop,P = fun w : VV => w = .int .u64 (T : Int) := ⟨_,rfl⟩
  have hP1 : P (.int .u64 (T : Int)) := by subst hP; rfl
  have hP2 : (fun r : VV × VHeap => r.1 = .int .u64 (T : Int)) = fun r => P r.1 := by subst hP; rfl
  rw [hP2]
  clear hP hP2
  simp -implicitDefEqProofs only [go_sem,↓reduceIte,reduceCtorEq,Int.reduceLT,Int.reduceLE,Int.reduceToNat,Nat.reduceAdd,Nat.reduceMul,Nat.reduceLeDiff,Nat.reduceLT,Nat.reduceSub,Int.reduceNeg,Int.reduceEq,Int.reduceBEq,Int.reduceBNe,Nat.reduceEqDiff]
  rw [Sat_bind]
  refine loop_up (I := fun i env h' => h' = [] ∧ env = [.str a,.undef,.undef,.int .u64 ((valB (a.take i) : Nat) : Int),.undef,.undef,.int .i64 ((a.length : Nat) : Int),.int .i64 ((i : Nat) : Int),.undef,.undef,.undef,.undef,.undef,.undef,.undef,.undef,.undef,.undef,.undef]) a.length ?_ ?_ (Nat.zero_le _) ⟨rfl,by simp -implicitDefEqProofs only [go_sem,↓reduceIte,reduceCtorEq,Int.reduceLT,Int.reduceLE,Int.reduceToNat,Nat.reduceAdd,Nat.reduceMul,Nat.reduceLeDiff,Nat.reduceLT,Nat.reduceSub,Int.reduceNeg,Int.reduceEq,Int.reduceBEq,Int.reduceBNe,Nat.reduceEqDiff,valB]⟩
  · rintro i env h' hi ⟨rfl,rfl⟩
    have hi' : (i : Int) < (a.length : Int) := by omega
    obtain ⟨c,hc⟩ : ∃ c,a[i]? = some c := ⟨a[i],List.getElem?_eq_getElem hi⟩
    have hw := wrap_succ (i := i) (by omega)
    have hv := valB_lt (a.take i)
    have hl : (a.take i).length = i := by rw [List.length_take]; omega
    rw [hl] at hv
    have hb : valB (a.take i) * 256 < 18446744073709551616 := by
      have : (256 : Nat) ^ i ≤ 256 ^ 7 := Nat.pow_le_pow_right (by omega) (by omega)
      have h7 : (256 : Nat) ^ 7 = 72057594037927936 := by decide
      omega
    have hs := shl8 hb
    have ho := or8 (c := c) hb
    have hn : valB (a.take (i + 1)) = 256 * valB (a.take i) + c.toNat := by
      rw [List.take_add_one,hc]; exact valB_snoc _ _
    have hu : IntKind.u64.wrap (c.toNat : Int) = c.toNat := u64_id (by have := u8_lt c; omega)
    simp -implicitDefEqProofs only [nat_short_b0,go_sem,↓reduceIte,reduceCtorEq,Int.reduceLT,Int.reduceLE,Int.reduceToNat,Nat.reduceAdd,Nat.reduceMul,Nat.reduceLeDiff,Nat.reduceLT,Nat.reduceSub,Int.reduceNeg,Int.reduceEq,Int.reduceBEq,Int.reduceBNe,Nat.reduceEqDiff,hi',hc,hw,hs,hu,ho,hn]
  · rintro env h' ⟨rfl,rfl⟩
    have ht : a.take a.length = a := List.take_length
    rw [ht,hT]
    simp -implicitDefEqProofs only [nat_short_b0,go_sem,↓reduceIte,reduceCtorEq,Int.reduceLT,Int.reduceLE,Int.reduceToNat,Nat.reduceAdd,Nat.reduceMul,Nat.reduceLeDiff,Nat.reduceLT,Nat.reduceSub,Int.reduceNeg,Int.reduceEq,Int.reduceBEq,Int.reduceBNe,Nat.reduceEqDiff,Int.lt_irrefl]
    exact hP1
theorem fromShort_spec (n : Nat) (hn : n < 18446744073709551616) (lo : Nat) (h : VHeap) : callVL vp lo n_nat_fromShort [.int .u64 (n : Int)] h = some (.str (encB n),h) := by
  refine call_valE (fn := nat_fromShort_v) rfl rfl rfl rfl rfl ?_ lo h
  have m0 : IntKind.i64.wrap (8 * 0) = 0 := by decide
  have v0 : IntKind.i64.wrap (56 - 0) = 56 := by decide
  have n0 : IntKind.i64.wrap (0 + 1) = 1 := by decide
  have m1 : IntKind.i64.wrap (8 * 1) = 8 := by decide
  have v1 : IntKind.i64.wrap (56 - 8) = 48 := by decide
  have n1 : IntKind.i64.wrap (1 + 1) = 2 := by decide
  have m2 : IntKind.i64.wrap (8 * 2) = 16 := by decide
  have v2 : IntKind.i64.wrap (56 - 16) = 40 := by decide
  have n2 : IntKind.i64.wrap (2 + 1) = 3 := by decide
  have m3 : IntKind.i64.wrap (8 * 3) = 24 := by decide
  have v3 : IntKind.i64.wrap (56 - 24) = 32 := by decide
  have n3 : IntKind.i64.wrap (3 + 1) = 4 := by decide
  have m4 : IntKind.i64.wrap (8 * 4) = 32 := by decide
  have v4 : IntKind.i64.wrap (56 - 32) = 24 := by decide
  have n4 : IntKind.i64.wrap (4 + 1) = 5 := by decide
  have m5 : IntKind.i64.wrap (8 * 5) = 40 := by decide
  have v5 : IntKind.i64.wrap (56 - 40) = 16 := by decide
  have n5 : IntKind.i64.wrap (5 + 1) = 6 := by decide
  have m6 : IntKind.i64.wrap (8 * 6) = 48 := by decide
  have v6 : IntKind.i64.wrap (56 - 48) = 8 := by decide
  have n6 : IntKind.i64.wrap (6 + 1) = 7 := by decide
  have m7 : IntKind.i64.wrap (8 * 7) = 56 := by decide
  have v7 : IntKind.i64.wrap (56 - 56) = 0 := by decide
  have n7 : IntKind.i64.wrap (7 + 1) = 8 := by decide
  have s0 : binE .shr (.int .u64 (n : Int)) (.int .i64 56) = some (.int .u64 ((n / 2 ^ 56 : Nat) : Int)) := shr64 (k := 56) (by omega)
  have s1 : binE .shr (.int .u64 (n : Int)) (.int .i64 48) = some (.int .u64 ((n / 2 ^ 48 : Nat) : Int)) := shr64 (k := 48) (by omega)
  have s2 : binE .shr (.int .u64 (n : Int)) (.int .i64 40) = some (.int .u64 ((n / 2 ^ 40 : Nat) : Int)) := shr64 (k := 40) (by omega)
  have s3 : binE .shr (.int .u64 (n : Int)) (.int .i64 32) = some (.int .u64 ((n / 2 ^ 32 : Nat) : Int)) := shr64 (k := 32) (by omega)
  have s4 : binE .shr (.int .u64 (n : Int)) (.int .i64 24) = some (.int .u64 ((n / 2 ^ 24 : Nat) : Int)) := shr64 (k := 24) (by omega)
  have s5 : binE .shr (.int .u64 (n : Int)) (.int .i64 16) = some (.int .u64 ((n / 2 ^ 16 : Nat) : Int)) := shr64 (k := 16) (by omega)
  have s6 : binE .shr (.int .u64 (n : Int)) (.int .i64 8) = some (.int .u64 ((n / 2 ^ 8 : Nat) : Int)) := shr64 (k := 8) (by omega)
  have s7 : binE .shr (.int .u64 (n : Int)) (.int .i64 0) = some (.int .u64 ((n / 2 ^ 0 : Nat) : Int)) := shr64 (k := 0) (by omega)
  have hf : trimB (fixB 8 n) = encB n := trim_fix (by have h8 : (256 : Nat) ^ 8 = 18446744073709551616 := by decide
                                                      omega)
  obtain ⟨b,hb⟩ : ∃ b : Nat → Nat,b = fun k => n / 2 ^ k := ⟨_,rfl⟩
  have hx : fixB 8 n = [UInt8.ofNat (n / 2 ^ 56 % 256),UInt8.ofNat (n / 2 ^ 48 % 256),UInt8.ofNat (n / 2 ^ 40 % 256),UInt8.ofNat (n / 2 ^ 32 % 256),UInt8.ofNat (n / 2 ^ 24 % 256),UInt8.ofNat (n / 2 ^ 16 % 256),UInt8.ofNat (n / 2 ^ 8 % 256),UInt8.ofNat (n / 2 ^ 0 % 256)] := by
    apply List.ext_getElem?
    intro p
    by_cases hp : p < 8
    · rw [fixB_get hp]
      unfold byt
      rcases p with _ | _ | _ | _ | _ | _ | _ | _ | p
      all_goals first | rfl | omega
    · rw [List.getElem?_eq_none (by rw [fixB_len]; omega),List.getElem?_eq_none (by simp; omega)]
  rw [hx] at hf
  have ht := trim_spec
  simp -implicitDefEqProofs only [nat_fromShort_b0,go_sem,↓reduceIte,reduceCtorEq,Int.reduceLT,Int.reduceLE,Int.reduceToNat,Nat.reduceAdd,Nat.reduceMul,Nat.reduceLeDiff,Nat.reduceLT,Nat.reduceSub,Int.reduceNeg,Int.reduceEq,Int.reduceBEq,Int.reduceBNe,Nat.reduceEqDiff,loopV_eq,↓thenV_norm,↓thenV_exit,↓thenV_ret,m0,v0,n0,s0,m1,v1,n1,s1,m2,v2,n2,s2,m3,v3,n3,s3,m4,v4,n4,s4,m5,v5,n5,s5,m6,v6,n6,s6,m7,v7,n7,s7,u8_mod,ht,bytesOf,isSl,List.flatten_cons,List.flatten_nil,sc_int,Int.toNat_natCast,hf]
end Vg.G3
