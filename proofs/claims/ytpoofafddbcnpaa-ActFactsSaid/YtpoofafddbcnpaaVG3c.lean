import Derived.Test.YtpoofafddbcnpaaVVgLib
import Derived.Test.YtpoofafddbcnpaaProg
import Derived.KernelRfl
namespace Vg.G3c
open Go Lg Go.RowKit
open Go.Proofs
-- cmp.isNaN[int]
def cmp_isNaN_int_r0 : List LOper := [
  ⟨some 2, none, .mv false (.c (.bool false))⟩]
def cmp_isNaN_int_r1 : List LOper := [
  ⟨some 3, none, .mv false (.t 0)⟩,
  ⟨some 4, none, .mv false (.t 0)⟩,
  ⟨some 5, none, .bin .neq (.t 3) (.t 4)⟩,
  ⟨some 2, none, .mv false (.t 5)⟩]
def cmp_isNaN_int_f : LFunc := ⟨6, 1, [.tmp 2], (.seq (.ops cmp_isNaN_int_r0) (.seq (.ops cmp_isNaN_int_r1) .ret))⟩
def cmp_isNaN_int_v : VFunc := ⟨cmp_isNaN_int_f, true, false, false⟩
theorem cmp_isNaN_int_ok : preFunc Try.prog ⟨[], [], []⟩ Try.f101 [] = some cmp_isNaN_int_f := by kernel_rfl

-- cmp.Compare[int]
def cmp_Compare_int_r0 : List LOper := [
  ⟨some 4, none, .mv false (.c (.int .i64 0))⟩]
def cmp_Compare_int_r1 : List LOper := [
  ⟨some 7, none, .mv false (.t 0)⟩,
  ⟨some 8, none, .call false 101 [(.t 7)]⟩,
  ⟨some 5, none, .mv false (.t 8)⟩]
def cmp_Compare_int_r2 : List LOper := [
  ⟨some 9, none, .mv false (.t 1)⟩,
  ⟨some 10, none, .call false 101 [(.t 9)]⟩,
  ⟨some 6, none, .mv false (.t 10)⟩]
def cmp_Compare_int_r3 : List LOper := [
  ⟨some 11, none, .mv false (.t 5)⟩]
def cmp_Compare_int_r4 : List LOper := [
  ⟨some 12, none, .mv false (.t 6)⟩]
def cmp_Compare_int_r5 : List LOper := [
  ⟨some 4, none, .mv false (.c (.int .i64 0))⟩]
def cmp_Compare_int_r6 : List LOper := [
  ⟨some 4, none, .mv false (.c (.int .i64 (-1)))⟩]
def cmp_Compare_int_r7 : List LOper := [
  ⟨some 13, none, .mv false (.t 6)⟩]
def cmp_Compare_int_r8 : List LOper := [
  ⟨some 4, none, .mv false (.c (.int .i64 1))⟩]
def cmp_Compare_int_r9 : List LOper := [
  ⟨some 14, none, .mv false (.t 0)⟩,
  ⟨some 15, none, .mv false (.t 1)⟩,
  ⟨some 16, none, .bin .lss (.t 14) (.t 15)⟩]
def cmp_Compare_int_r10 : List LOper := [
  ⟨some 4, none, .mv false (.c (.int .i64 (-1)))⟩]
def cmp_Compare_int_r11 : List LOper := [
  ⟨some 17, none, .mv false (.t 0)⟩,
  ⟨some 18, none, .mv false (.t 1)⟩,
  ⟨some 19, none, .bin .gtr (.t 17) (.t 18)⟩]
def cmp_Compare_int_r12 : List LOper := [
  ⟨some 4, none, .mv false (.c (.int .i64 1))⟩]
def cmp_Compare_int_r13 : List LOper := [
  ⟨some 4, none, .mv false (.c (.int .i64 0))⟩]
def cmp_Compare_int_f : LFunc := ⟨20, 2, [.tmp 4], (.seq (.ops cmp_Compare_int_r0) (.seq (.ops cmp_Compare_int_r1) (.seq (.ops cmp_Compare_int_r2) (.seq (.seq (.ops cmp_Compare_int_r3) (.cond (.t 11) (.seq (.seq (.ops cmp_Compare_int_r4) (.cond (.t 12) (.seq (.ops cmp_Compare_int_r5) .ret) .skip)) (.seq (.ops cmp_Compare_int_r6) .ret)) .skip)) (.seq (.seq (.ops cmp_Compare_int_r7) (.cond (.t 13) (.seq (.ops cmp_Compare_int_r8) .ret) .skip)) (.seq (.seq (.ops cmp_Compare_int_r9) (.cond (.t 16) (.seq (.ops cmp_Compare_int_r10) .ret) .skip)) (.seq (.seq (.ops cmp_Compare_int_r11) (.cond (.t 19) (.seq (.ops cmp_Compare_int_r12) .ret) .skip)) (.seq (.ops cmp_Compare_int_r13) .ret))))))))⟩
def cmp_Compare_int_v : VFunc := ⟨cmp_Compare_int_f, true, false, false⟩
theorem cmp_Compare_int_ok : preFunc Try.prog ⟨[], [], []⟩ Try.f78 [] = some cmp_Compare_int_f := by kernel_rfl

-- slices.Compare[[]int,int]
def slices_Compare_intint_r0 : List LOper := [
  ⟨some 4, none, .mv false (.c (.int .i64 0))⟩]
def slices_Compare_intint_r1 : List LOper := [
  ⟨some 9, none, .mv false (.t 0)⟩,
  ⟨some 10, none, .lenL (.t 9)⟩,
  ⟨some 11, none, .mv false (.c (.int .i64 0))⟩]
def slices_Compare_intint_r2 : List LOper := [
  ⟨some 12, none, .bin .lss (.t 11) (.t 10)⟩]
def slices_Compare_intint_r3 : List LOper := [
  ⟨some 13, none, .mv false (.t 11)⟩,
  ⟨some 14, none, .indexAddr 1 (.t 9) (.t 11)⟩,
  ⟨some 15, none, .load false false 1 (.t 14)⟩,
  ⟨some 5, none, .mv false (.t 13)⟩,
  ⟨some 6, none, .mv false (.t 15)⟩]
def slices_Compare_intint_r4 : List LOper := [
  ⟨some 16, none, .mv false (.t 5)⟩,
  ⟨some 17, none, .mv false (.t 1)⟩,
  ⟨some 18, none, .lenL (.t 17)⟩,
  ⟨some 19, none, .bin .geq (.t 16) (.t 18)⟩]
def slices_Compare_intint_r5 : List LOper := [
  ⟨some 4, none, .mv false (.c (.int .i64 1))⟩]
def slices_Compare_intint_r6 : List LOper := [
  ⟨some 20, none, .mv false (.t 1)⟩,
  ⟨some 21, none, .mv false (.t 5)⟩,
  ⟨some 22, none, .indexAddr 1 (.t 20) (.t 21)⟩,
  ⟨some 23, none, .load false false 1 (.t 22)⟩,
  ⟨some 7, none, .mv false (.t 23)⟩]
def slices_Compare_intint_r7 : List LOper := [
  ⟨some 24, none, .mv false (.t 6)⟩,
  ⟨some 25, none, .mv false (.t 7)⟩,
  ⟨some 26, none, .call false 78 [(.t 24), (.t 25)]⟩,
  ⟨some 8, none, .mv false (.t 26)⟩]
def slices_Compare_intint_r8 : List LOper := [
  ⟨some 27, none, .mv false (.t 8)⟩,
  ⟨some 28, none, .bin .neq (.t 27) (.c (.int .i64 0))⟩]
def slices_Compare_intint_r9 : List LOper := [
  ⟨some 29, none, .mv false (.t 8)⟩,
  ⟨some 4, none, .mv false (.t 29)⟩]
def slices_Compare_intint_r10 : List LOper := [
  ⟨some 30, none, .bin .add (.t 11) (.c (.int .i64 1))⟩,
  ⟨some 11, none, .mv false (.t 30)⟩]
def slices_Compare_intint_b0 : LCode := (.seq (.ops slices_Compare_intint_r2) (.seq (.cond (.t 12) .skip (.exit 0)) (.seq (.block 1 (.seq (.ops slices_Compare_intint_r3) (.seq (.seq (.ops slices_Compare_intint_r4) (.cond (.t 19) (.seq (.ops slices_Compare_intint_r5) .ret) .skip)) (.seq (.ops slices_Compare_intint_r6) (.seq (.ops slices_Compare_intint_r7) (.seq (.ops slices_Compare_intint_r8) (.cond (.t 28) (.seq (.ops slices_Compare_intint_r9) .ret) .skip))))))) (.ops slices_Compare_intint_r10))))
def slices_Compare_intint_r11 : List LOper := [
  ⟨some 31, none, .mv false (.t 0)⟩,
  ⟨some 32, none, .lenL (.t 31)⟩,
  ⟨some 33, none, .mv false (.t 1)⟩,
  ⟨some 34, none, .lenL (.t 33)⟩,
  ⟨some 35, none, .bin .lss (.t 32) (.t 34)⟩]
def slices_Compare_intint_r12 : List LOper := [
  ⟨some 4, none, .mv false (.c (.int .i64 (-1)))⟩]
def slices_Compare_intint_r13 : List LOper := [
  ⟨some 4, none, .mv false (.c (.int .i64 0))⟩]
def slices_Compare_intint_f : LFunc := ⟨36, 2, [.tmp 4], (.seq (.ops slices_Compare_intint_r0) (.seq (.seq (.ops slices_Compare_intint_r1) (.block 0 (.loop [0, 1, 9, 10, 11] slices_Compare_intint_b0))) (.seq (.seq (.ops slices_Compare_intint_r11) (.cond (.t 35) (.seq (.ops slices_Compare_intint_r12) .ret) .skip)) (.seq (.ops slices_Compare_intint_r13) .ret))))⟩
def slices_Compare_intint_v : VFunc := ⟨slices_Compare_intint_f, true, false, false⟩
theorem slices_Compare_intint_ok : preFunc Try.prog ⟨[], [], []⟩ Try.f65 [[0, 1, 9, 10, 11]] = some slices_Compare_intint_f := by kernel_rfl

-- gantry/fact.Compare
def fact_Compare_r0 : List LOper := [
  ⟨some 2, none, .box (.t 0)⟩,
  ⟨some 3, none, .box (.t 1)⟩,
  ⟨some 4, none, .mv false (.c (.int .i64 0))⟩]
def fact_Compare_r1 : List LOper := [
  ⟨some 5, none, .fieldAddr 0 (.t 2)⟩,
  ⟨some 6, none, .load false false 1 (.t 5)⟩,
  ⟨some 7, none, .fieldAddr 1 (.t 2)⟩,
  ⟨some 8, none, .load false false 1 (.t 7)⟩,
  ⟨some 9, none, .fieldAddr 2 (.t 2)⟩,
  ⟨some 10, none, .load false false 1 (.t 9)⟩,
  ⟨some 11, none, .bslice false 3 1 [.int .i64 0, .int .i64 0, .int .i64 0] [(0, 1, (.t 6)), (1, 1, (.t 8)), (2, 1, (.t 10))]⟩,
  ⟨some 12, none, .fieldAddr 0 (.t 3)⟩,
  ⟨some 13, none, .load false false 1 (.t 12)⟩,
  ⟨some 14, none, .fieldAddr 1 (.t 3)⟩,
  ⟨some 15, none, .load false false 1 (.t 14)⟩,
  ⟨some 16, none, .fieldAddr 2 (.t 3)⟩,
  ⟨some 17, none, .load false false 1 (.t 16)⟩,
  ⟨some 18, none, .bslice false 3 1 [.int .i64 0, .int .i64 0, .int .i64 0] [(0, 1, (.t 13)), (1, 1, (.t 15)), (2, 1, (.t 17))]⟩,
  ⟨some 19, none, .call false 65 [(.t 11), (.t 18)]⟩,
  ⟨some 4, none, .mv false (.t 19)⟩]
def fact_Compare_f : LFunc := ⟨20, 2, [.tmp 4], (.seq (.ops fact_Compare_r0) (.seq (.ops fact_Compare_r1) .ret))⟩
def fact_Compare_v : VFunc := ⟨fact_Compare_f, true, false, false⟩
theorem fact_Compare_ok : preFunc Try.prog ⟨[], [], []⟩ Try.f54 [] = some fact_Compare_f := by kernel_rfl

-- gantry/act.Compare
def act_Compare_r0 : List LOper := [
  ⟨some 2, none, .box (.t 0)⟩,
  ⟨some 3, none, .box (.t 1)⟩,
  ⟨some 4, none, .mv false (.c (.int .i64 0))⟩]
def act_Compare_r1 : List LOper := [
  ⟨some 5, none, .fieldAddr 0 (.t 2)⟩,
  ⟨some 6, none, .load false false 1 (.t 5)⟩,
  ⟨some 7, none, .fieldAddr 1 (.t 2)⟩,
  ⟨some 8, none, .load false false 1 (.t 7)⟩,
  ⟨some 9, none, .fieldAddr 2 (.t 2)⟩,
  ⟨some 10, none, .load false false 1 (.t 9)⟩,
  ⟨some 11, none, .fieldAddr 3 (.t 2)⟩,
  ⟨some 12, none, .load false false 1 (.t 11)⟩,
  ⟨some 13, none, .fieldAddr 4 (.t 2)⟩,
  ⟨some 14, none, .load false false 1 (.t 13)⟩,
  ⟨some 15, none, .bslice false 5 1 [.int .i64 0, .int .i64 0, .int .i64 0, .int .i64 0, .int .i64 0] [(0, 1, (.t 6)), (1, 1, (.t 8)), (2, 1, (.t 10)), (3, 1, (.t 12)), (4, 1, (.t 14))]⟩,
  ⟨some 16, none, .fieldAddr 0 (.t 3)⟩,
  ⟨some 17, none, .load false false 1 (.t 16)⟩,
  ⟨some 18, none, .fieldAddr 1 (.t 3)⟩,
  ⟨some 19, none, .load false false 1 (.t 18)⟩,
  ⟨some 20, none, .fieldAddr 2 (.t 3)⟩,
  ⟨some 21, none, .load false false 1 (.t 20)⟩,
  ⟨some 22, none, .fieldAddr 3 (.t 3)⟩,
  ⟨some 23, none, .load false false 1 (.t 22)⟩,
  ⟨some 24, none, .fieldAddr 4 (.t 3)⟩,
  ⟨some 25, none, .load false false 1 (.t 24)⟩,
  ⟨some 26, none, .bslice false 5 1 [.int .i64 0, .int .i64 0, .int .i64 0, .int .i64 0, .int .i64 0] [(0, 1, (.t 17)), (1, 1, (.t 19)), (2, 1, (.t 21)), (3, 1, (.t 23)), (4, 1, (.t 25))]⟩,
  ⟨some 27, none, .call false 65 [(.t 15), (.t 26)]⟩,
  ⟨some 4, none, .mv false (.t 27)⟩]
def act_Compare_f : LFunc := ⟨28, 2, [.tmp 4], (.seq (.ops act_Compare_r0) (.seq (.ops act_Compare_r1) .ret))⟩
def act_Compare_v : VFunc := ⟨act_Compare_f, true, false, false⟩
theorem act_Compare_ok : preFunc Try.prog ⟨[], [], []⟩ Try.f35 [] = some act_Compare_f := by kernel_rfl

abbrev n_cmp_isNaN_int : Nat := 101
abbrev n_cmp_Compare_int : Nat := 78
abbrev n_slices_Compare_intint : Nat := 65
abbrev n_fact_Compare : Nat := 54
abbrev n_act_Compare : Nat := 35
def vp : VProg
  | 101 => some cmp_isNaN_int_v
  | 78 => some cmp_Compare_int_v
  | 65 => some slices_Compare_intint_v
  | 54 => some fact_Compare_v
  | 35 => some act_Compare_v
  | _ => none
def lp : LProg := fun f => (vp f).map (·.fn)
theorem lp_ok : PSound true Try.prog lp := by
  intro f lf h
  unfold lp at h
  unfold vp at h
  split at h
  · cases h; exact .inl ⟨_, _, _, Try.func101, cmp_isNaN_int_ok⟩
  · cases h; exact .inl ⟨_, _, _, Try.func78, cmp_Compare_int_ok⟩
  · cases h; exact .inl ⟨_, _, _, Try.func65, slices_Compare_intint_ok⟩
  · cases h; exact .inl ⟨_, _, _, Try.func54, fact_Compare_ok⟩
  · cases h; exact .inl ⟨_, _, _, Try.func35, act_Compare_ok⟩
  · cases h
theorem vp_link (f : FuncId) : Link (lp f) (vp f) := by
  unfold lp
  exact .of_eq rfl
theorem law {f : FuncId} {args : List VV} {h1 : VHeap} (hE : callVL vp 0 f args [] = some (.bool true, h1)) {w : World} {ρ : List Lg.Place} {lh : Heap} (R : Rep (m := true) ⟨w⟩ ρ lh w) {vs : Array Value} {largs : List LV} (hv : VRs ρ vs.toList largs) (hr : RVs (fun _ => none) [] lh args largs) :
    Calls Try.prog f vs w fun e w' => e = .returned (.bool true) ∧ Below w.heap.size w w' := law_true lp_ok vp_link hE R hv hr
end Vg.G3c
