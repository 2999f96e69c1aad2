import Derived.Test.YtpclbojoknhnlaaDoorVP6
import Derived.Test.YtpclbojoknhnlaaDoorVH8
namespace Vg.G3
open Go Lg Vg.Nm
set_option linter.unusedSimpArgs false
set_option linter.unusedVariables false
set_option maxRecDepth 10000
set_option maxHeartbeats 4000000
attribute [local congr] bind_congr1
attribute [local go_sem] parse_stmts_r0 parse_stmts_r1 parse_stmts_r2 parse_stmts_r3 parse_stmts_r4 parse_stmts_r5 parse_stmts_r6 parse_stmts_r7 parse_stmts_r8 parse_stmts_r9 parse_stmts_r10 parse_stmts_r11 parse_stmts_r12 parse_stmts_r13 parse_stmts_r14 parse_stmts_f parse_stmts_v parse_Check_r0 parse_Check_r1 parse_Check_r2 parse_Check_r3 parse_Check_r4 parse_Check_f parse_Check_v

theorem stmts_put {a b : List UInt8} {n d : Nat} (ha : NM a) (hb : NM b) (g : GS n d) (bn : n ≤ 1000000) (bd : d ≤ 1000) (lo : Nat) (h : VHeap) : callVL vp lo n_parse_stmts [.list .s [putV a b n d], .int .i64 1] h = some (.tup [.int .i64 1, .int .i64 0], h) := by
  refine call_valE (fn := parse_stmts_v) rfl rfl rfl rfl rfl ?_ lo h
  have hp := stmt_put ha hb g bn bd
  have w1 : IntKind.i64.wrap (0 + 1) = 1 := by decide
  unfold putV at *
  simp -implicitDefEqProofs (maxSteps := 1000000) only [parse_stmts_b0, go_sem, ↓reduceIte, reduceCtorEq, Int.reduceLT, Int.reduceLE, Int.reduceToNat, Nat.reduceAdd, Nat.reduceMul, Nat.reduceLeDiff, Nat.reduceLT, Nat.reduceSub, Int.reduceNeg, Int.reduceEq, Int.reduceBEq, Int.reduceBNe, Nat.reduceEqDiff, loopV_eq, ↓thenV_norm, ↓thenV_exit, ↓thenV_ret, hp, w1, Int.lt_irrefl]
theorem nm_x : NM [120] := ⟨by decide, by decide, by decide, by decide⟩
theorem Check_put {a b : List UInt8} {n d : Nat} (ha : NM a) (hb : NM b) (g : GS n d) (bn : n ≤ 1000000) (bd : d ≤ 1000) (lo : Nat) (h : VHeap) : callVL vp lo n_parse_Check [.agg [.str [120], .list .s [putV a b n d]]] h = some (.int .i64 0, h) := by
  refine call_valE (fn := parse_Check_v) rfl rfl rfl rfl rfl ?_ lo h
  have hp := stmts_put ha hb g bn bd
  have hn := nm_x.name
  simp -implicitDefEqProofs (maxSteps := 1000000) only [go_sem, ↓reduceIte, reduceCtorEq, Int.reduceLT, Int.reduceLE, Int.reduceToNat, Nat.reduceAdd, Nat.reduceMul, Nat.reduceLeDiff, Nat.reduceLT, Nat.reduceSub, Int.reduceNeg, Int.reduceEq, Int.reduceBEq, Int.reduceBNe, Nat.reduceEqDiff, loopV_eq, ↓thenV_norm, ↓thenV_exit, ↓thenV_ret, hp, hn]
end Vg.G3
