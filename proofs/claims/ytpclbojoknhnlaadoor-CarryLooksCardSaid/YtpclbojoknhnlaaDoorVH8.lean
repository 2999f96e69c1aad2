import Derived.Test.YtpclbojoknhnlaaDoorVP4
import Derived.Test.YtpclbojoknhnlaaDoorVVgLib
namespace Vg.G3
open Go Lg
set_option linter.unusedSimpArgs false
set_option linter.unusedVariables false
set_option maxRecDepth 10000
set_option maxHeartbeats 4000000
attribute [local congr] bind_congr1
attribute [local go_sem] slices_Reverse_bytebyte_r0 slices_Reverse_bytebyte_r1 slices_Reverse_bytebyte_r2 slices_Reverse_bytebyte_r2_d slices_Reverse_bytebyte_r3 slices_Reverse_bytebyte_f slices_Reverse_bytebyte_v gantmake_digits_r0 gantmake_digits_r1 gantmake_digits_r2 gantmake_digits_r3 gantmake_digits_r4 gantmake_digits_r5 gantmake_digits_r6 gantmake_digits_f gantmake_digits_v
theorem next_at1 {lo : Nat} (hlo : lo ≤ 1) (a : VBlk) (t : VHeap) (n : Int) (ys : List Int) : callVL vp lo n_gantmake_Stream_Next [.ptr 1 0, .int .i64 n] (a :: .cells true [.list .s (ys.map fun x => [.int .i64 x])] :: t) = some (.int .i64 (nxt ys n).1, a :: .cells true [.list .s ((nxt ys n).2.map fun x => [.int .i64 x])] :: t) := by
  have := Next_spec (lo := lo) (s := 1) (h := a :: strm ys :: t) (xs := ys) n hlo rfl
  simpa [strm, ints] using this
theorem digits_small {n : Int} (h0 : 0 < n) (h1 : n < 256) (lo : Nat) (h : VHeap) : callVL vp lo n_gantmake_digits [.int .i64 n] h = some (.str [UInt8.ofNat n.toNat], h) := by
  refine call_valE (fn := gantmake_digits_v) rfl rfl rfl rfl rfl ?_ lo h
  have hR : ∀ h : VHeap, callVL vp 0 n_slices_Reverse_bytebyte [.list .s [[.int .u8 n]]] h = some (.tup [], h) := by
    intro h
    refine call_valE (fn := slices_Reverse_bytebyte_v) rfl rfl rfl rfl rfl ?_ 0 h
    have hw : IntKind.i64.wrap (1 - 1) = 0 := by decide
    simp -implicitDefEqProofs only [slices_Reverse_bytebyte_b0, go_sem, ↓reduceIte, reduceCtorEq, Int.reduceLT, Int.reduceLE, Int.reduceToNat, Nat.reduceAdd, Nat.reduceMul, Nat.reduceLeDiff, Nat.reduceLT, Nat.reduceSub, Int.reduceNeg, Int.reduceEq, Int.reduceBEq, Int.reduceBNe, Nat.reduceEqDiff, hw, loopV_eq, ↓thenV_norm, ↓thenV_exit, ↓thenV_ret, Int.lt_irrefl]
  have hm : n.tmod 256 = n := by rw [Int.tmod_eq_emod_of_nonneg (by omega)]; omega
  have hd : IntKind.i64.wrap (n.tdiv 256) = 0 := by rw [Int.tdiv_eq_ediv_of_nonneg (by omega), show n / 256 = 0 by omega]; decide
  have hu : IntKind.u8.wrap n = n := by
    have : IntKind.u8.wrap n = n % 256 := by simp [IntKind.wrap, IntKind.signed, IntKind.bits]
    rw [this]; omega
  simp -implicitDefEqProofs only [gantmake_digits_b0, go_sem, ↓reduceIte, reduceCtorEq, Int.reduceLT, Int.reduceLE, Int.reduceToNat, Nat.reduceAdd, Nat.reduceMul, Nat.reduceLeDiff, Nat.reduceLT, Nat.reduceSub, Int.reduceNeg, Int.reduceEq, Int.reduceBEq, Int.reduceBNe, Nat.reduceEqDiff, loopV_eq, ↓thenV_norm, ↓thenV_exit, ↓thenV_ret, h0, hm, hd, hu, hR, Int.lt_irrefl, bytesOf, isSl, List.flatten_cons, List.flatten_nil, sc_int]
end Vg.G3
