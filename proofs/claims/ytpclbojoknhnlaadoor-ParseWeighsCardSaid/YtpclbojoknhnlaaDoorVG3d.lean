import Derived.Test.YtpclbojoknhnlaaDoorVVgLib
import Derived.Test.YtpclbojoknhnlaaDoorProg
import Derived.KernelRfl
namespace Vg.G3d
open Go Lg Go.RowKit
open Go.Proofs
-- slices.Concat[[]gantry/parse.Stmt,gantry/parse.Stmt]
def slices_Concat_antryparseStmt_r0 : List LOper := [
  ⟨some 2, none, .mv false (.c (.nilslice))⟩]
def slices_Concat_antryparseStmt_r1 : List LOper := [
  ⟨some 3, none, .mv false (.c (.int .i64 0))⟩]
def slices_Concat_antryparseStmt_r2 : List LOper := [
  ⟨some 9, none, .mv false (.t 0)⟩,
  ⟨some 10, none, .lenL (.t 9)⟩,
  ⟨some 11, none, .mv false (.c (.int .i64 0))⟩]
def slices_Concat_antryparseStmt_r3 : List LOper := [
  ⟨some 12, none, .bin .lss (.t 11) (.t 10)⟩]
def slices_Concat_antryparseStmt_r4 : List LOper := [
  ⟨some 13, none, .indexAddr 1 (.t 9) (.t 11)⟩,
  ⟨some 14, none, .load false false 1 (.t 13)⟩,
  ⟨some 5, none, .mv false (.t 14)⟩]
def slices_Concat_antryparseStmt_r5 : List LOper := [
  ⟨some 15, none, .mv false (.t 3)⟩,
  ⟨some 16, none, .mv false (.t 5)⟩,
  ⟨some 17, none, .lenL (.t 16)⟩,
  ⟨some 18, none, .bin .add (.t 15) (.t 17)⟩,
  ⟨some 3, none, .mv false (.t 18)⟩]
def slices_Concat_antryparseStmt_r6 : List LOper := [
  ⟨some 19, none, .mv false (.t 3)⟩,
  ⟨some 20, none, .bin .lss (.t 19) (.c (.int .i64 0))⟩]
def slices_Concat_antryparseStmt_r7 : List LOper := [
  ⟨some 21, none, .stuck⟩,
  ⟨none, none, .stuck⟩]
def slices_Concat_antryparseStmt_r8 : List LOper := [
  ⟨some 22, none, .bin .add (.t 11) (.c (.int .i64 1))⟩,
  ⟨some 11, none, .mv false (.t 22)⟩]
def slices_Concat_antryparseStmt_b0 : LCode := (.seq (.ops slices_Concat_antryparseStmt_r3) (.seq (.cond (.t 12) .skip (.exit 0)) (.seq (.block 1 (.seq (.ops slices_Concat_antryparseStmt_r4) (.seq (.ops slices_Concat_antryparseStmt_r5) (.seq (.ops slices_Concat_antryparseStmt_r6) (.cond (.t 20) (.ops slices_Concat_antryparseStmt_r7) .skip))))) (.ops slices_Concat_antryparseStmt_r8))))
def slices_Concat_antryparseStmt_r9 : List LOper := [
  ⟨some 23, none, .mv false (.t 3)⟩,
  ⟨some 24, none, .call false 109 [(.c (.nilslice)), (.t 23)]⟩,
  ⟨some 6, none, .mv false (.t 24)⟩]
def slices_Concat_antryparseStmt_r10 : List LOper := [
  ⟨some 25, none, .mv false (.t 0)⟩,
  ⟨some 26, none, .lenL (.t 25)⟩,
  ⟨some 27, none, .mv false (.c (.int .i64 0))⟩]
def slices_Concat_antryparseStmt_r11 : List LOper := [
  ⟨some 28, none, .bin .lss (.t 27) (.t 26)⟩]
def slices_Concat_antryparseStmt_r12 : List LOper := [
  ⟨some 29, none, .indexAddr 1 (.t 25) (.t 27)⟩,
  ⟨some 30, none, .load false false 1 (.t 29)⟩,
  ⟨some 8, none, .mv false (.t 30)⟩]
def slices_Concat_antryparseStmt_r13 : List LOper := [
  ⟨some 31, none, .mv false (.t 6)⟩,
  ⟨some 32, none, .mv false (.t 8)⟩,
  ⟨some 33, none, .append false 8 112 (.t 31) (.t 32)⟩,
  ⟨some 6, none, .mv false (.t 33)⟩]
def slices_Concat_antryparseStmt_r14 : List LOper := [
  ⟨some 34, none, .bin .add (.t 27) (.c (.int .i64 1))⟩,
  ⟨some 27, none, .mv false (.t 34)⟩]
def slices_Concat_antryparseStmt_b1 : LCode := (.seq (.ops slices_Concat_antryparseStmt_r11) (.seq (.cond (.t 28) .skip (.exit 2)) (.seq (.block 3 (.seq (.ops slices_Concat_antryparseStmt_r12) (.ops slices_Concat_antryparseStmt_r13))) (.ops slices_Concat_antryparseStmt_r14))))
def slices_Concat_antryparseStmt_r15 : List LOper := [
  ⟨some 35, none, .mv false (.t 6)⟩,
  ⟨some 2, none, .mv false (.t 35)⟩]
def slices_Concat_antryparseStmt_f : LFunc := ⟨36, 1, [.tmp 2], (.seq (.ops slices_Concat_antryparseStmt_r0) (.seq (.ops slices_Concat_antryparseStmt_r1) (.seq (.seq (.ops slices_Concat_antryparseStmt_r2) (.block 0 (.loop [0, 3, 9, 10, 11] slices_Concat_antryparseStmt_b0))) (.seq (.ops slices_Concat_antryparseStmt_r9) (.seq (.seq (.ops slices_Concat_antryparseStmt_r10) (.block 2 (.loop [6, 25, 26, 27] slices_Concat_antryparseStmt_b1))) (.seq (.ops slices_Concat_antryparseStmt_r15) .ret))))))⟩
def slices_Concat_antryparseStmt_v : VFunc := ⟨slices_Concat_antryparseStmt_f, false, false, true⟩
theorem slices_Concat_antryparseStmt_ok : preFunc Tryd.prog ⟨[], [33], []⟩ Tryd.f54 [[0, 3, 9, 10, 11], [6, 25, 26, 27]] = some slices_Concat_antryparseStmt_f := by kernel_rfl

-- slices.Grow[[]gantry/parse.Stmt,gantry/parse.Stmt]
def slices_Grow_antryparseStmt_r0 : List LOper := [
  ⟨some 4, none, .mv false (.c (.nilslice))⟩]
def slices_Grow_antryparseStmt_r1 : List LOper := [
  ⟨some 5, none, .mv false (.t 1)⟩,
  ⟨some 6, none, .bin .lss (.t 5) (.c (.int .i64 0))⟩]
def slices_Grow_antryparseStmt_r2 : List LOper := [
  ⟨some 7, none, .stuck⟩,
  ⟨none, none, .stuck⟩]
def slices_Grow_antryparseStmt_r3 : List LOper := [
  ⟨some 8, none, .mv false (.t 1)⟩,
  ⟨some 9, none, .mv false (.t 0)⟩,
  ⟨some 10, none, .capL (.t 9)⟩,
  ⟨some 11, none, .mv false (.t 0)⟩,
  ⟨some 12, none, .lenL (.t 11)⟩,
  ⟨some 13, none, .bin .sub (.t 10) (.t 12)⟩,
  ⟨some 14, none, .bin .sub (.t 8) (.t 13)⟩,
  ⟨some 1, none, .mv false (.t 14)⟩]
def slices_Grow_antryparseStmt_r4 : List LOper := [
  ⟨some 15, none, .mv false (.t 1)⟩,
  ⟨some 16, none, .bin .gtr (.t 15) (.c (.int .i64 0))⟩]
def slices_Grow_antryparseStmt_r5 : List LOper := [
  ⟨some 17, none, .mv false (.t 0)⟩,
  ⟨some 18, none, .mv false (.t 0)⟩,
  ⟨some 19, none, .capL (.t 18)⟩,
  ⟨some 20, none, .slc 8 (.t 17) none (some (.t 19)) none⟩,
  ⟨some 21, none, .mv false (.t 1)⟩,
  ⟨some 22, none, .appendZ 8 112 [.int .i64 0, .str [], .str [], .bool false, .str [], .str [], .int .i64 0, .nilslice] (.t 20) (.t 21)⟩,
  ⟨some 23, none, .mv false (.t 0)⟩,
  ⟨some 24, none, .lenL (.t 23)⟩,
  ⟨some 25, none, .slc 8 (.t 22) none (some (.t 24)) none⟩,
  ⟨some 0, none, .mv false (.t 25)⟩]
def slices_Grow_antryparseStmt_r6 : List LOper := [
  ⟨some 26, none, .mv false (.t 0)⟩,
  ⟨some 4, none, .mv false (.t 26)⟩]
def slices_Grow_antryparseStmt_f : LFunc := ⟨27, 2, [.tmp 4], (.seq (.ops slices_Grow_antryparseStmt_r0) (.seq (.seq (.ops slices_Grow_antryparseStmt_r1) (.cond (.t 6) (.ops slices_Grow_antryparseStmt_r2) .skip)) (.seq (.seq (.ops slices_Grow_antryparseStmt_r3) (.seq (.ops slices_Grow_antryparseStmt_r4) (.cond (.t 16) (.ops slices_Grow_antryparseStmt_r5) .skip))) (.seq (.ops slices_Grow_antryparseStmt_r6) .ret))))⟩
def slices_Grow_antryparseStmt_v : VFunc := ⟨slices_Grow_antryparseStmt_f, false, false, true⟩
theorem slices_Grow_antryparseStmt_ok : preFunc Tryd.prog ⟨[], [], []⟩ Tryd.f109 [] = some slices_Grow_antryparseStmt_f := by kernel_rfl

abbrev n_slices_Concat_antryparseStmt : Nat := 54
def vp : VProg
  | 54 => some slices_Concat_antryparseStmt_v
  | 109 => some slices_Grow_antryparseStmt_v
  | _ => none
def lp : LProg := fun f => (vp f).map (·.fn)
theorem lp_ok : PSound false Tryd.prog lp := by
  intro f lf h
  unfold lp at h
  unfold vp at h
  split at h
  · cases h; exact .inl ⟨_, _, _, Tryd.func54, slices_Concat_antryparseStmt_ok⟩
  · cases h; exact .inl ⟨_, _, _, Tryd.func109, slices_Grow_antryparseStmt_ok⟩
  · cases h
theorem vp_link (f : FuncId) : Link (lp f) (vp f) := by
  unfold lp
  exact .of_eq rfl
theorem law {f : FuncId} {args : List VV} {h1 : VHeap} (hE : callVL vp 0 f args [] = some (.bool true, h1)) {w : World} {ρ : List Lg.Place} {lh : Heap} (R : Rep (m := false) ⟨w⟩ ρ lh w) {vs : Array Value} {largs : List LV} (hv : VRs ρ vs.toList largs) (hr : RVs (fun _ => none) [] lh args largs) :
    Calls Tryd.prog f vs w fun e w' => e = .returned (.bool true) ∧ Below w.heap.size w w' := law_true lp_ok vp_link hE R hv hr
end Vg.G3d
