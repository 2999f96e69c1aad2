import Derived.Test.YtpikplkdlbnffaaGreatDoorVM4
import Derived.Test.YtpikplkdlbnffaaGreatDoorVP6
namespace Vg.G3
open Go Lg Vg.Nm
set_option linter.unusedSimpArgs false
set_option linter.unusedVariables false
set_option maxRecDepth 10000
set_option maxHeartbeats 8000000
attribute [local congr] bind_congr1
attribute [local go_sem] parse_plain_r0 parse_plain_r1 parse_plain_r2 parse_plain_r3 parse_plain_r4 parse_plain_r5 parse_plain_r6 parse_plain_r7 parse_plain_r8 parse_plain_r9 parse_plain_r10 parse_plain_r11 parse_plain_f parse_plain_v parse_shape_r0 parse_shape_r1 parse_shape_r2 parse_shape_r3 parse_shape_r4 parse_shape_r5 parse_shape_r6 parse_shape_r7 parse_shape_r8 parse_shape_r9 parse_shape_r10 parse_shape_r11 parse_shape_r12 parse_shape_r13 parse_shape_f parse_shape_v

theorem nm_part (i : Nat) : NM (partN i) := by unfold partN; split <;> exact ⟨by decide,by decide,by decide,by decide⟩
theorem nm_arm (i : Nat) : NM (armN i) := by unfold armN; split <;> exact ⟨by decide,by decide,by decide,by decide⟩
theorem nm_slot (i : Nat) : NM (slotN i) := by unfold slotN; split <;> exact ⟨by decide,by decide,by decide,by decide⟩
theorem gs_d {d : Nat} (h : 4 ≤ d) (h8 : d ≤ 8) : GS 1 d ∧ wn d = encB 1 ∧ wd d = encB d := by
  have hd : d = 4 ∨ d = 5 ∨ d = 6 ∨ d = 7 ∨ d = 8 := by omega
  have e1 : encB 1 = [1] := enc_one
  refine ⟨⟨by decide,by omega,by decide,by omega,Nat.gcd_one_left d⟩,?_,?_⟩
  · rw [e1]; unfold wn; rw [if_neg (by omega)]
  · unfold wd; rw [if_neg (by omega)]
    rcases hd with rfl | rfl | rfl | rfl | rfl <;> decide +kernel
theorem nm_ne {s : List UInt8} (g : NM s) : (s == []) = false := beq_ne g.h0
/-- A leaf of the generator is right. -/
theorem plain_leaf {a p s : Nat} {l : Leaf} (g : l.ok a p s) (lo : Nat) (h : VHeap) : callVL vp lo n_parse_plain [.agg l.row] h = some (.int .i64 0,h) := by
  cases l with
  | put i j d =>
    have n1 := nm_part i
    have n2 := nm_slot j
    by_cases hd : d = 0
    · subst hd
      have w1 : wn 0 = [] := rfl
      have w2 : wd 0 = [] := rfl
      refine call_valE (fn := parse_plain_v) rfl rfl rfl rfl rfl ?_ lo h
      have m1 := n1.name
      have m2 := n2.name
      have e1 := nm_ne n1
      have e2 := nm_ne n2
      unfold Leaf.row
      simp only [Leaf.kind,Leaf.A,Leaf.B,Leaf.d,Leaf.n,w1,w2]
      generalize partN i = A at *
      generalize slotN j = B at *
      simp -implicitDefEqProofs (maxSteps := 1000000) only [go_sem,↓reduceIte,reduceCtorEq,Int.reduceLT,Int.reduceLE,Int.reduceToNat,Nat.reduceAdd,Nat.reduceMul,Nat.reduceLeDiff,Nat.reduceLT,Nat.reduceSub,Int.reduceNeg,Int.reduceEq,Int.reduceBEq,Int.reduceBNe,Nat.reduceEqDiff,m1,m2,e1,e2,nil_nil]
    · obtain ⟨gs,w1,w2⟩ := gs_d (d := d) (by simp only [Leaf.ok] at g; omega) (by simp only [Leaf.ok] at g; omega)
      have := plain_put n1 n2 gs (by decide) (by have := g.2.2; omega) lo h
      unfold putV at this
      unfold Leaf.row
      simp only [Leaf.kind,Leaf.A,Leaf.B,Leaf.d,Leaf.n,w1,w2]
      exact this
  | hold i j =>
    have n1 := nm_part i
    have n2 := nm_arm j
    have w1 : wn 0 = [] := rfl
    have w2 : wd 0 = [] := rfl
    refine call_valE (fn := parse_plain_v) rfl rfl rfl rfl rfl ?_ lo h
    have m1 := n1.name
    have m2 := n2.name
    have e1 := nm_ne n1
    have e2 := nm_ne n2
    unfold Leaf.row
    simp only [Leaf.kind,Leaf.A,Leaf.B,Leaf.d,Leaf.n,w1,w2]
    generalize partN i = A at *
    generalize armN j = B at *
    simp -implicitDefEqProofs (maxSteps := 1000000) only [go_sem,↓reduceIte,reduceCtorEq,Int.reduceLT,Int.reduceLE,Int.reduceToNat,Nat.reduceAdd,Nat.reduceMul,Nat.reduceLeDiff,Nat.reduceLT,Nat.reduceSub,Int.reduceNeg,Int.reduceEq,Int.reduceBEq,Int.reduceBNe,Nat.reduceEqDiff,m1,m2,e1,e2,nil_nil]
  | free j =>
    have n1 := nm_arm j
    have w1 : wn 0 = [] := rfl
    have w2 : wd 0 = [] := rfl
    refine call_valE (fn := parse_plain_v) rfl rfl rfl rfl rfl ?_ lo h
    have m1 := n1.name
    have e1 := nm_ne n1
    unfold Leaf.row
    simp only [Leaf.kind,Leaf.A,Leaf.B,Leaf.d,Leaf.n,w1,w2]
    generalize armN j = A at *
    simp -implicitDefEqProofs (maxSteps := 1000000) only [go_sem,↓reduceIte,reduceCtorEq,Int.reduceLT,Int.reduceLE,Int.reduceToNat,Nat.reduceAdd,Nat.reduceMul,Nat.reduceLeDiff,Nat.reduceLT,Nat.reduceSub,Int.reduceNeg,Int.reduceEq,Int.reduceBEq,Int.reduceBNe,Nat.reduceEqDiff,m1,e1,nil_nil]
  | see i =>
    have n1 := nm_part i
    have w1 : wn 0 = [] := rfl
    have w2 : wd 0 = [] := rfl
    refine call_valE (fn := parse_plain_v) rfl rfl rfl rfl rfl ?_ lo h
    have m1 := n1.name
    have e1 := nm_ne n1
    unfold Leaf.row
    simp only [Leaf.kind,Leaf.A,Leaf.B,Leaf.d,Leaf.n,w1,w2]
    generalize partN i = A at *
    simp -implicitDefEqProofs (maxSteps := 1000000) only [go_sem,↓reduceIte,reduceCtorEq,Int.reduceLT,Int.reduceLE,Int.reduceToNat,Nat.reduceAdd,Nat.reduceMul,Nat.reduceLeDiff,Nat.reduceLT,Nat.reduceSub,Int.reduceNeg,Int.reduceEq,Int.reduceBEq,Int.reduceBNe,Nat.reduceEqDiff,m1,e1,nil_nil]
  | wait n =>
    have w1 : wn 0 = [] := rfl
    have w2 : wd 0 = [] := rfl
    refine call_valE (fn := parse_plain_v) rfl rfl rfl rfl rfl ?_ lo h
    unfold Leaf.row
    simp only [Leaf.kind,Leaf.A,Leaf.B,Leaf.d,Leaf.n,w1,w2]
    have hn : n = 1 ∨ n = 2 ∨ n = 3 := by simp only [Leaf.ok] at g; omega
    have c1 : ((1 : Nat) : Int) = 1 := rfl
    have c2 : ((2 : Nat) : Int) = 2 := rfl
    have c3 : ((3 : Nat) : Int) = 3 := rfl
    rcases hn with rfl | rfl | rfl <;> simp -implicitDefEqProofs (maxSteps := 1000000) only [go_sem,↓reduceIte,reduceCtorEq,Int.reduceLT,Int.reduceLE,Int.reduceToNat,Nat.reduceAdd,Nat.reduceMul,Nat.reduceLeDiff,Nat.reduceLT,Nat.reduceSub,Int.reduceNeg,Int.reduceEq,Int.reduceBEq,Int.reduceBNe,Nat.reduceEqDiff,nil_nil,c1,c2,c3]
/-- The blocks of a statement with blocks are as many as its kind asks for. -/
structure SH (k n len : Nat) : Prop where
  ok : (k = 6 ∧ n = 0 ∧ len = 1) ∨ (k = 7 ∧ 1 ≤ n ∧ n ≤ 5 ∧ len = 1) ∨ (k = 8 ∧ n = 0 ∧ 1 ≤ len ∧ len ≤ 4) ∨ (k = 9 ∧ n = 0 ∧ len = 2)
theorem SH.of {k n len : Nat} (h : shapeOk k n len) : SH k n len := ⟨by unfold shapeOk at h; omega⟩
theorem shape_blk {k n : Nat} {R : List (List VV)} (g : SH k n R.length) (lo : Nat) (h : VHeap) : callVL vp lo n_parse_shape [.agg [.int .i64 (k : Nat),.str [],.str [],.bool false,.str [],.str [],.int .i64 (n : Nat),.list .s R]] h = some (.int .i64 0,h) := by
  refine call_valE (fn := parse_shape_v) rfl rfl rfl rfl rfl ?_ lo h
  have c0 : ((0 : Nat) : Int) = 0 := rfl
  have c6 : ((6 : Nat) : Int) = 6 := rfl
  have c7 : ((7 : Nat) : Int) = 7 := rfl
  have c8 : ((8 : Nat) : Int) = 8 := rfl
  have c9 : ((9 : Nat) : Int) = 9 := rfl
  have c1 : ((1 : Nat) : Int) = 1 := rfl
  have c2 : ((2 : Nat) : Int) = 2 := rfl
  rcases g.ok with ⟨rfl,rfl,hl⟩ | ⟨rfl,h1,h2,hl⟩ | ⟨rfl,rfl,h1,h2⟩ | ⟨rfl,rfl,hl⟩
  · simp -implicitDefEqProofs (maxSteps := 1000000) only [go_sem,↓reduceIte,reduceCtorEq,Int.reduceLT,Int.reduceLE,Int.reduceToNat,Nat.reduceAdd,Nat.reduceMul,Nat.reduceLeDiff,Nat.reduceLT,Nat.reduceSub,Int.reduceNeg,Int.reduceEq,Int.reduceBEq,Int.reduceBNe,Nat.reduceEqDiff,nil_nil,c0,c6,hl,c1]
  · have g1 : ¬ ((n : Int) < 1) := by omega
    have g2 : ¬ (5 < (n : Int)) := by omega
    simp -implicitDefEqProofs (maxSteps := 1000000) only [go_sem,↓reduceIte,reduceCtorEq,Int.reduceLT,Int.reduceLE,Int.reduceToNat,Nat.reduceAdd,Nat.reduceMul,Nat.reduceLeDiff,Nat.reduceLT,Nat.reduceSub,Int.reduceNeg,Int.reduceEq,Int.reduceBEq,Int.reduceBNe,Nat.reduceEqDiff,nil_nil,c7,hl,c1,g1,g2]
  · have g1 : ¬ ((R.length : Int) < 1) := by omega
    have g2 : ¬ (4 < (R.length : Int)) := by omega
    simp -implicitDefEqProofs (maxSteps := 1000000) only [go_sem,↓reduceIte,reduceCtorEq,Int.reduceLT,Int.reduceLE,Int.reduceToNat,Nat.reduceAdd,Nat.reduceMul,Nat.reduceLeDiff,Nat.reduceLT,Nat.reduceSub,Int.reduceNeg,Int.reduceEq,Int.reduceBEq,Int.reduceBNe,Nat.reduceEqDiff,nil_nil,c0,c8,g1,g2]
  · simp -implicitDefEqProofs (maxSteps := 1000000) only [go_sem,↓reduceIte,reduceCtorEq,Int.reduceLT,Int.reduceLE,Int.reduceToNat,Nat.reduceAdd,Nat.reduceMul,Nat.reduceLeDiff,Nat.reduceLT,Nat.reduceSub,Int.reduceNeg,Int.reduceEq,Int.reduceBEq,Int.reduceBNe,Nat.reduceEqDiff,nil_nil,c0,c9,hl,c2]
end Vg.G3
