import Derived.Test.YtpikplkdlbnffaaGreatDoorVP1
import Derived.Test.YtpikplkdlbnffaaGreatDoorVN3
namespace Vg.G3
open Go Lg Vg.Nm
set_option linter.unusedSimpArgs false
set_option linter.unusedVariables false
set_option maxRecDepth 10000
set_option maxHeartbeats 4000000
attribute [local congr] bind_congr1
attribute [local go_sem] bytealg_CompareString_f bytealg_CompareString_v strings_Compare_r0 strings_Compare_r1 strings_Compare_f strings_Compare_v nat_Cmp_r0 nat_Cmp_r1 nat_Cmp_r2 nat_Cmp_r3 nat_Cmp_r4 nat_Cmp_r5 nat_Cmp_r6 nat_Cmp_f nat_Cmp_v nat_Of_r0 nat_Of_r1 nat_Of_r2 nat_Of_r3 nat_Of_f nat_Of_v

theorem Compare_spec (a b : List UInt8) (lo : Nat) (h : VHeap) : callVL vp lo n_strings_Compare [.str a,.str b] h = some (.int .i64 (Go.Lib.compareBytes a b),h) := by
  have hc : ∀ (lo : Nat) (h : VHeap),callVL vp lo n_bytealg_CompareString [.str a,.str b] h = some (.int .i64 (Go.Lib.compareBytes a b),h) := by
    intro lo h
    refine call_valE (fn := bytealg_CompareString_v) rfl rfl rfl rfl rfl ?_ lo h
    simp -implicitDefEqProofs only [go_sem,↓reduceIte,reduceCtorEq,Int.reduceLT,Int.reduceLE,Int.reduceToNat,Nat.reduceAdd,Nat.reduceMul,Nat.reduceLeDiff,Nat.reduceLT,Nat.reduceSub,Int.reduceNeg,Int.reduceEq,Int.reduceBEq,Int.reduceBNe,Nat.reduceEqDiff,ext2]
  refine call_valE (fn := strings_Compare_v) rfl rfl rfl rfl rfl ?_ lo h
  simp -implicitDefEqProofs only [go_sem,↓reduceIte,reduceCtorEq,Int.reduceLT,Int.reduceLE,Int.reduceToNat,Nat.reduceAdd,Nat.reduceMul,Nat.reduceLeDiff,Nat.reduceLT,Nat.reduceSub,Int.reduceNeg,Int.reduceEq,Int.reduceBEq,Int.reduceBNe,Nat.reduceEqDiff,hc]
theorem Cmp_spec (a b : List UInt8) (ha : a.length < 1000000) (hb : b.length < 1000000) (lo : Nat) (h : VHeap) : callVL vp lo n_nat_Cmp [.str a,.str b] h = some (.int .i64 (cmpN (valB a) (valB b)),h) := by
  refine call_valE (fn := nat_Cmp_v) rfl rfl rfl rfl rfl ?_ lo h
  have h1 := trim_spec a
  have h2 := trim_spec b
  have ca := trim_canon a
  have cb := trim_canon b
  rw [← trim_val a,← trim_val b]
  generalize trimB a = x at *
  generalize trimB b = y at *
  rcases Nat.lt_trichotomy x.length y.length with hl | hl | hl
  · have e := cmpN_lt (canon_len cb hl)
    have hl' : (x.length : Int) < (y.length : Int) := by omega
    simp -implicitDefEqProofs only [go_sem,↓reduceIte,reduceCtorEq,Int.reduceLT,Int.reduceLE,Int.reduceToNat,Nat.reduceAdd,Nat.reduceMul,Nat.reduceLeDiff,Nat.reduceLT,Nat.reduceSub,Int.reduceNeg,Int.reduceEq,Int.reduceBEq,Int.reduceBNe,Nat.reduceEqDiff,h1,h2,hl',e]
  · have e := cmp_same x y hl
    have hl1 : ¬ (x.length : Int) < (y.length : Int) := by omega
    have hl2 : ¬ (y.length : Int) < (x.length : Int) := by omega
    have hc := Compare_spec x y
    rw [e] at hc
    simp -implicitDefEqProofs only [go_sem,↓reduceIte,reduceCtorEq,Int.reduceLT,Int.reduceLE,Int.reduceToNat,Nat.reduceAdd,Nat.reduceMul,Nat.reduceLeDiff,Nat.reduceLT,Nat.reduceSub,Int.reduceNeg,Int.reduceEq,Int.reduceBEq,Int.reduceBNe,Nat.reduceEqDiff,h1,h2,hl1,hl2,hc]
  · have e := cmpN_gt (canon_len ca hl)
    have hl1 : ¬ (x.length : Int) < (y.length : Int) := by omega
    have hl2 : (y.length : Int) < (x.length : Int) := by omega
    simp -implicitDefEqProofs only [go_sem,↓reduceIte,reduceCtorEq,Int.reduceLT,Int.reduceLE,Int.reduceToNat,Nat.reduceAdd,Nat.reduceMul,Nat.reduceLeDiff,Nat.reduceLT,Nat.reduceSub,Int.reduceNeg,Int.reduceEq,Int.reduceBEq,Int.reduceBNe,Nat.reduceEqDiff,h1,h2,hl1,hl2,e]
theorem natOf_spec (n : Nat) (hn : n < 9223372036854775808) (lo : Nat) (h : VHeap) : callVL vp lo n_nat_Of [.int .i64 (n : Int)] h = some (.str (encB n),h) := by
  refine call_valE (fn := nat_Of_v) rfl rfl rfl rfl rfl ?_ lo h
  have hf := fromShort_spec n (by omega)
  have hu : IntKind.u64.wrap (n : Int) = n := u64_id (by omega)
  by_cases h0 : (n : Int) < 1
  · obtain rfl : n = 0 := by omega
    have h0' : (0 : Int) < 1 := by decide
    simp -implicitDefEqProofs only [go_sem,↓reduceIte,reduceCtorEq,Int.reduceLT,Int.reduceLE,Int.reduceToNat,Nat.reduceAdd,Nat.reduceMul,Nat.reduceLeDiff,Nat.reduceLT,Nat.reduceSub,Int.reduceNeg,Int.reduceEq,Int.reduceBEq,Int.reduceBNe,Nat.reduceEqDiff,h0',encB_zero]
  · simp -implicitDefEqProofs only [go_sem,↓reduceIte,reduceCtorEq,Int.reduceLT,Int.reduceLE,Int.reduceToNat,Nat.reduceAdd,Nat.reduceMul,Nat.reduceLeDiff,Nat.reduceLT,Nat.reduceSub,Int.reduceNeg,Int.reduceEq,Int.reduceBEq,Int.reduceBNe,Nat.reduceEqDiff,h0,hu,hf]
end Vg.G3
