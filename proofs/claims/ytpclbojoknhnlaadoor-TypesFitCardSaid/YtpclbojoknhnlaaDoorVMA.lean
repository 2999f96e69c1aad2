import Derived.Test.YtpclbojoknhnlaaDoorVM8
namespace Vg.G3
open Go Lg Vg.Nm
set_option linter.unusedSimpArgs false
set_option linter.unusedVariables false
set_option maxRecDepth 10000
set_option maxHeartbeats 8000000
attribute [local congr] bind_congr1
attribute [local go_sem] types_kinds_r0 types_kinds_r1 types_kinds_r2 types_kinds_r3 types_kinds_r4 types_kinds_r5 types_kinds_r6 types_kinds_r7 types_kinds_r8 types_kinds_r9 types_kinds_r10 types_kinds_f types_kinds_v types_Find_r0 types_Find_r1 types_Find_r2 types_Find_r3 types_Find_r4 types_Find_r5 types_Find_r6 types_Find_r7 types_Find_r8 types_Find_r9 types_Find_r10 types_Find_r11 types_Find_r12 types_Find_r13 types_Find_r14 types_Find_r15 types_Find_r16 types_Find_r17 types_Find_r18 types_Find_r19 types_Find_r20 types_Find_r21 types_Find_r22 types_Find_r23 types_Find_r24 types_Find_r25 types_Find_f types_Find_v

theorem kinds_spec {k : Int} (h1 : 1 ≤ k) (h5 : k ≤ 5) (lo : Nat) (h : VHeap) : callVL vp lo n_types_kinds [.int .i64 k] h = some (.tup [.int .i64 (if k = 1 ∨ k = 2 ∨ k = 4 then 2 else if k = 3 then 1 else 0), .int .i64 (if k = 1 then 3 else if k = 2 then 1 else 0)], h) := by
  have hk : k = 1 ∨ k = 2 ∨ k = 3 ∨ k = 4 ∨ k = 5 := by omega
  rcases hk with rfl | rfl | rfl | rfl | rfl
  all_goals
    refine call_valE (fn := types_kinds_v) rfl rfl rfl rfl rfl ?_ lo h
    simp only [Int.reduceEq, if_true, if_false, or_self, or_true, true_or, false_or, or_false]
    simp -implicitDefEqProofs only [go_sem, ↓reduceIte, reduceCtorEq, Int.reduceLT, Int.reduceLE, Int.reduceToNat, Nat.reduceAdd, Nat.reduceMul, Nat.reduceLeDiff, Nat.reduceLT, Nat.reduceSub, Int.reduceNeg, Int.reduceEq, Int.reduceBEq, Int.reduceBNe, Nat.reduceEqDiff]
/-- Where a name is found. -/
def foundV (k i : Int) : VV := .tup [.int .i64 k, .int .i64 i]
theorem Find_name {a p s : Nat} (h1 : 1 ≤ a) (h2 : a ≤ 2) (h4 : p ≤ 2) (h5 : 1 ≤ s) (h6 : s ≤ 2) :
    (∀ j, j < a → ∀ lo h, callVL vp lo n_types_Find [.agg (smallV a p s), .str (armN j)] h = some (foundV 1 (j : Nat), h)) ∧
    (∀ j, j < p → ∀ lo h, callVL vp lo n_types_Find [.agg (smallV a p s), .str (partN j)] h = some (foundV 2 (j : Nat), h)) ∧
    (∀ j, j < s → ∀ lo h, callVL vp lo n_types_Find [.agg (smallV a p s), .str (slotN j)] h = some (foundV 3 (j : Nat), h)) ∧
    (∀ j, p = 0 → ∀ lo h, callVL vp lo n_types_Find [.agg (smallV a p s), .str (partN j)] h = some (foundV 0 (-1), h)) := by
  have w0 : IntKind.i64.wrap (0 + 1) = 1 := by decide
  have w1 : IntKind.i64.wrap (1 + 1) = 2 := by decide
  have ha : a = 1 ∨ a = 2 := by omega
  have hp : p = 0 ∨ p = 1 ∨ p = 2 := by omega
  have hs : s = 1 ∨ s = 2 := by omega
  have a0 : armN 0 = [97, 110, 110] := rfl
  have a1 : armN 1 = [98, 111, 98] := rfl
  have p0 : partN 0 = [98, 111, 108, 116] := rfl
  have p1 : ∀ j, partN (j + 1) = [110, 117, 116] := fun _ => rfl
  have s0 : slotN 0 = [104, 101, 114, 101] := rfl
  have s1 : slotN 1 = [116, 104, 101, 114, 101] := rfl
  have b0 : (([97, 110, 110] : List UInt8) == [97, 110, 110]) = true := rfl
  have b1 : (([97, 110, 110] : List UInt8) == [98, 111, 98]) = false := rfl
  have b2 : (([97, 110, 110] : List UInt8) == [98, 111, 108, 116]) = false := rfl
  have b3 : (([97, 110, 110] : List UInt8) == [110, 117, 116]) = false := rfl
  have b4 : (([97, 110, 110] : List UInt8) == [104, 101, 114, 101]) = false := rfl
  have b5 : (([97, 110, 110] : List UInt8) == [116, 104, 101, 114, 101]) = false := rfl
  have c1 : (([98, 111, 98] : List UInt8) == [98, 111, 98]) = true := rfl
  have c2 : (([98, 111, 98] : List UInt8) == [98, 111, 108, 116]) = false := rfl
  have c3 : (([98, 111, 98] : List UInt8) == [110, 117, 116]) = false := rfl
  have c4 : (([98, 111, 98] : List UInt8) == [104, 101, 114, 101]) = false := rfl
  have c5 : (([98, 111, 98] : List UInt8) == [116, 104, 101, 114, 101]) = false := rfl
  have d2 : (([98, 111, 108, 116] : List UInt8) == [98, 111, 108, 116]) = true := rfl
  have d3 : (([98, 111, 108, 116] : List UInt8) == [110, 117, 116]) = false := rfl
  have d4 : (([98, 111, 108, 116] : List UInt8) == [104, 101, 114, 101]) = false := rfl
  have d5 : (([98, 111, 108, 116] : List UInt8) == [116, 104, 101, 114, 101]) = false := rfl
  have e3 : (([110, 117, 116] : List UInt8) == [110, 117, 116]) = true := rfl
  have e4 : (([110, 117, 116] : List UInt8) == [104, 101, 114, 101]) = false := rfl
  have e5 : (([110, 117, 116] : List UInt8) == [116, 104, 101, 114, 101]) = false := rfl
  have f4 : (([104, 101, 114, 101] : List UInt8) == [104, 101, 114, 101]) = true := rfl
  have f5 : (([104, 101, 114, 101] : List UInt8) == [116, 104, 101, 114, 101]) = false := rfl
  have g5 : (([116, 104, 101, 114, 101] : List UInt8) == [116, 104, 101, 114, 101]) = true := rfl
  refine ⟨fun j hj lo h => ?_, fun j hj lo h => ?_, fun j hj lo h => ?_, fun j hj lo h => ?_⟩
  · have hjj : j = 0 ∨ j = 1 := by omega
    refine call_valE (fn := types_Find_v) rfl rfl rfl rfl rfl ?_ lo h
    rcases hjj with rfl | rfl <;> rcases ha with rfl | rfl <;> first | (exfalso; omega) | (
      rcases hp with rfl | rfl | rfl <;> rcases hs with rfl | rfl <;> simp -implicitDefEqProofs (maxSteps := 2000000) only [types_Find_b0, types_Find_b1, types_Find_b2, types_Find_b3, go_sem, ↓reduceIte, reduceCtorEq, Int.reduceLT, Int.reduceLE, Int.reduceToNat, Nat.reduceAdd, Nat.reduceMul, Nat.reduceLeDiff, Nat.reduceLT, Nat.reduceSub, Int.reduceNeg, Int.reduceEq, Int.reduceBEq, Int.reduceBNe, Nat.reduceEqDiff, loopV_eq, ↓thenV_norm, ↓thenV_exit, ↓thenV_ret, smallV, armsR, partsR, slotsR, armR, partR, slotR, w0, w1, a0, a1, b0, b1, c1, Int.lt_irrefl, foundV, cast0, cast1])
  · refine call_valE (fn := types_Find_v) rfl rfl rfl rfl rfl ?_ lo h
    rcases hp with rfl | rfl | rfl
    · exfalso; omega
    · obtain rfl : j = 0 := by omega
      rcases ha with rfl | rfl <;> rcases hs with rfl | rfl <;> simp -implicitDefEqProofs (maxSteps := 2000000) only [types_Find_b0, types_Find_b1, types_Find_b2, types_Find_b3, go_sem, ↓reduceIte, reduceCtorEq, Int.reduceLT, Int.reduceLE, Int.reduceToNat, Nat.reduceAdd, Nat.reduceMul, Nat.reduceLeDiff, Nat.reduceLT, Nat.reduceSub, Int.reduceNeg, Int.reduceEq, Int.reduceBEq, Int.reduceBNe, Nat.reduceEqDiff, loopV_eq, ↓thenV_norm, ↓thenV_exit, ↓thenV_ret, smallV, armsR, partsR, slotsR, armR, partR, slotR, w0, w1, p0, b2, c2, d2, Int.lt_irrefl, foundV, cast0, cast1]
    · have hjj : j = 0 ∨ j = 1 := by omega
      have p1' : partN 1 = [110, 117, 116] := rfl
      rcases hjj with rfl | rfl <;> rcases ha with rfl | rfl <;> rcases hs with rfl | rfl <;> simp -implicitDefEqProofs (maxSteps := 2000000) only [types_Find_b0, types_Find_b1, types_Find_b2, types_Find_b3, go_sem, ↓reduceIte, reduceCtorEq, Int.reduceLT, Int.reduceLE, Int.reduceToNat, Nat.reduceAdd, Nat.reduceMul, Nat.reduceLeDiff, Nat.reduceLT, Nat.reduceSub, Int.reduceNeg, Int.reduceEq, Int.reduceBEq, Int.reduceBNe, Nat.reduceEqDiff, loopV_eq, ↓thenV_norm, ↓thenV_exit, ↓thenV_ret, smallV, armsR, partsR, slotsR, armR, partR, slotR, w0, w1, p0, p1', b2, b3, c2, c3, d2, d3, e3, Int.lt_irrefl, foundV, cast0, cast1]
  · have hjj : j = 0 ∨ j = 1 := by omega
    refine call_valE (fn := types_Find_v) rfl rfl rfl rfl rfl ?_ lo h
    rcases hjj with rfl | rfl <;> rcases hs with rfl | rfl <;> first | (exfalso; omega) | (
      rcases hp with rfl | rfl | rfl <;> rcases ha with rfl | rfl <;> simp -implicitDefEqProofs (maxSteps := 2000000) only [types_Find_b0, types_Find_b1, types_Find_b2, types_Find_b3, go_sem, ↓reduceIte, reduceCtorEq, Int.reduceLT, Int.reduceLE, Int.reduceToNat, Nat.reduceAdd, Nat.reduceMul, Nat.reduceLeDiff, Nat.reduceLT, Nat.reduceSub, Int.reduceNeg, Int.reduceEq, Int.reduceBEq, Int.reduceBNe, Nat.reduceEqDiff, loopV_eq, ↓thenV_norm, ↓thenV_exit, ↓thenV_ret, smallV, armsR, partsR, slotsR, armR, partR, slotR, w0, w1, s0, s1, b4, b5, c4, c5, d4, d5, e4, e5, f4, f5, g5, Int.lt_irrefl, foundV, cast0, cast1])
  · subst hj
    refine call_valE (fn := types_Find_v) rfl rfl rfl rfl rfl ?_ lo h
    have hj : partN j = [98, 111, 108, 116] ∨ partN j = [110, 117, 116] := by unfold partN; split <;> simp
    have k2 : (([104, 101, 114, 101] : List UInt8) == [98, 111, 108, 116]) = false := rfl
    have k3 : (([104, 101, 114, 101] : List UInt8) == [110, 117, 116]) = false := rfl
    have l2 : (([116, 104, 101, 114, 101] : List UInt8) == [98, 111, 108, 116]) = false := rfl
    have l3 : (([116, 104, 101, 114, 101] : List UInt8) == [110, 117, 116]) = false := rfl
    rcases hj with e | e <;> rw [e] <;> rcases ha with rfl | rfl <;> rcases hs with rfl | rfl <;> simp -implicitDefEqProofs (maxSteps := 2000000) only [types_Find_b0, types_Find_b1, types_Find_b2, types_Find_b3, go_sem, ↓reduceIte, reduceCtorEq, Int.reduceLT, Int.reduceLE, Int.reduceToNat, Nat.reduceAdd, Nat.reduceMul, Nat.reduceLeDiff, Nat.reduceLT, Nat.reduceSub, Int.reduceNeg, Int.reduceEq, Int.reduceBEq, Int.reduceBNe, Nat.reduceEqDiff, loopV_eq, ↓thenV_norm, ↓thenV_exit, ↓thenV_ret, smallV, armsR, partsR, slotsR, armR, partR, slotR, w0, w1, b2, b3, c2, c3, k2, k3, l2, l3, Int.lt_irrefl, foundV, cast0, cast1]
end Vg.G3
namespace Vg.G3
open Go Lg Vg.Nm
set_option linter.unusedSimpArgs false
set_option linter.unusedVariables false
set_option maxRecDepth 10000
set_option maxHeartbeats 8000000
attribute [local congr] bind_congr1
attribute [local go_sem] types_index_r0 types_index_r1 types_index_r2 types_index_r3 types_index_r4 types_index_r5 types_index_r6 types_index_r7 types_index_r8 types_index_f types_index_v types_Bind_r0 types_Bind_r1 types_Bind_r2 types_Bind_r3 types_Bind_r4 types_Bind_r5 types_Bind_r6 types_Bind_r7 types_Bind_r8 types_Bind_r9 types_Bind_r10 types_Bind_r10_d types_Bind_r11 types_Bind_r12 types_Bind_f types_Bind_v

def Leaf.ga : Leaf → Int
  | .put i _ _ => (i : Nat)
  | .hold i _ => (i : Nat)
  | .free j => (j : Nat)
  | .see i => (i : Nat)
  | .wait _ => -1
def Leaf.gb : Leaf → Int
  | .put _ j _ => (j : Nat)
  | .hold _ j => (j : Nat)
  | _ => -1
/-- A goal. -/
def Leaf.goal (l : Leaf) : List VV := [.int .i64 l.kind, .int .i64 l.ga, .int .i64 l.gb, .int .i64 l.n]
/-- Names a part. -/
def Leaf.part : Leaf → Bool
  | .put .. => true
  | .hold .. => true
  | .see _ => true
  | _ => false
theorem index_none {a p s : Nat} {x : List UInt8} (lo : Nat) (h : VHeap) : callVL vp lo n_types_index [.agg (smallV a p s), .int .i64 0, .str x] h = some (.tup [.int .i64 (-1), .int .i64 0], h) := by
  refine call_valE (fn := types_index_v) rfl rfl rfl rfl rfl ?_ lo h
  unfold smallV
  simp -implicitDefEqProofs only [go_sem, ↓reduceIte, reduceCtorEq, Int.reduceLT, Int.reduceLE, Int.reduceToNat, Nat.reduceAdd, Nat.reduceMul, Nat.reduceLeDiff, Nat.reduceLT, Nat.reduceSub, Int.reduceNeg, Int.reduceEq, Int.reduceBEq, Int.reduceBNe, Nat.reduceEqDiff]
theorem index_found {a p s : Nat} {x : List UInt8} {k i : Int} (hk : k ≠ 0) (hF : ∀ (lo : Nat) (h : VHeap), callVL vp lo n_types_Find [.agg (smallV a p s), .str x] h = some (foundV k i, h)) (lo : Nat) (h : VHeap) : callVL vp lo n_types_index [.agg (smallV a p s), .int .i64 k, .str x] h = some (.tup [.int .i64 i, .int .i64 0], h) := by
  refine call_valE (fn := types_index_v) rfl rfl rfl rfl rfl ?_ lo h
  unfold smallV foundV at *
  simp -implicitDefEqProofs only [go_sem, ↓reduceIte, reduceCtorEq, Int.reduceLT, Int.reduceLE, Int.reduceToNat, Nat.reduceAdd, Nat.reduceMul, Nat.reduceLeDiff, Nat.reduceLT, Nat.reduceSub, Int.reduceNeg, Int.reduceEq, Int.reduceBEq, Int.reduceBNe, Nat.reduceEqDiff, hF, hk]
theorem index_missing {a p s : Nat} {x : List UInt8} {k : Int} (hk : k ≠ 0) (hF : ∀ (lo : Nat) (h : VHeap), callVL vp lo n_types_Find [.agg (smallV a p s), .str x] h = some (foundV 0 (-1), h)) (lo : Nat) (h : VHeap) : callVL vp lo n_types_index [.agg (smallV a p s), .int .i64 k, .str x] h = some (.tup [.int .i64 0, .int .i64 16], h) := by
  refine call_valE (fn := types_index_v) rfl rfl rfl rfl rfl ?_ lo h
  unfold smallV foundV at *
  simp -implicitDefEqProofs only [go_sem, ↓reduceIte, reduceCtorEq, Int.reduceLT, Int.reduceLE, Int.reduceToNat, Nat.reduceAdd, Nat.reduceMul, Nat.reduceLeDiff, Nat.reduceLT, Nat.reduceSub, Int.reduceNeg, Int.reduceEq, Int.reduceBEq, Int.reduceBNe, Nat.reduceEqDiff, hF, hk]
theorem nm_x : NM [120] := ⟨by decide, by decide, by decide, by decide⟩
theorem Check_one {a p s : Nat} {l : Leaf} (g : l.ok a p s) (lo : Nat) (h : VHeap) : callVL vp lo n_parse_Check [.agg [.str [120], .list .s [l.row]]] h = some (.int .i64 0, h) := by
  have := Check_spec (a := a) (p := p) (s := s) nm_x (L := [.leaf l]) (by simp) (fun x hx => by
    simp only [List.mem_singleton] at hx
    subst hx
    simpa only [St.ok] using g) lo h
  simp only [List.map_cons, List.map_nil, St.row, St.wt, List.sum_cons, List.sum_nil] at this
  exact this
theorem enc_4 : encB 4 = [4] := by rw [encB_pos (by decide)]; rw [show 4 / 256 = 0 by decide, encB_zero]; rfl
theorem gs_4 : GS 1 4 := ⟨by decide, by decide, by decide, by decide, by decide⟩
/-- Bind, of a leaf of a works; the works may have lost its parts. -/
theorem Bind_spec {a p s q : Nat} (h1 : 1 ≤ a) (h2 : a ≤ 2) (h4 : p ≤ 2) (h5 : 1 ≤ s) (h6 : s ≤ 2) {l : Leaf} (g : l.ok a p s) (hq : q = p ∨ q = 0) (lo : Nat) (h : VHeap) : callVL vp lo n_types_Bind [.agg (smallV a q s), .agg l.row] h =
    some (.tup (if l.part = true ∧ q = 0 then [.agg [.int .i64 0, .int .i64 0, .int .i64 0, .int .i64 0], .int .i64 16] else [.agg l.goal, .int .i64 0]), h) := by
  refine call_valE (fn := types_Bind_v) rfl rfl rfl rfl rfl ?_ lo h
  have hq2 : q ≤ 2 := by omega
  obtain ⟨fA, fP, fS, fN⟩ := Find_name (a := a) (p := q) (s := s) h1 h2 hq2 h5 h6
  have hC := Check_one g
  have k1 := kinds_spec (k := 1) (by decide) (by decide)
  have k2 := kinds_spec (k := 2) (by decide) (by decide)
  have k3 := kinds_spec (k := 3) (by decide) (by decide)
  have k4 := kinds_spec (k := 4) (by decide) (by decide)
  have k5 := kinds_spec (k := 5) (by decide) (by decide)
  simp only [Int.reduceEq, if_true, if_false, or_self, or_true, true_or, false_or, or_false] at k1 k2 k3 k4 k5
  have n1 := fun x => @index_none a q s x
  have w0 : wn 0 = [] := rfl
  have w0' : wd 0 = [] := rfl
  have sg := fun i => @slot_get s h6 i
  cases l with
  | put i j d =>
    have gi := g.1
    have gj := g.2.1
    have iS := index_found (by decide : (3 : Int) ≠ 0) (fS j gj)
    have sj := sg (j : Nat) (by omega) (by omega)
    rw [Int.toNat_natCast] at sj
    have j0 : (0 : Int) ≤ ((j : Nat) : Int) := by omega
    have jt : (((j : Nat) : Int)).toNat = j := Int.toNat_natCast j
    by_cases hq0 : q = 0
    · have iN := index_missing (by decide : (2 : Int) ≠ 0) (fN i hq0)
      unfold Leaf.row at *
      simp only [Leaf.kind, Leaf.A, Leaf.B, Leaf.d, Leaf.n, Leaf.part, hq0, and_self, if_true] at hC ⊢
      rw [hq0] at iN iS n1
      unfold smallV at *
      simp only [List.take_zero] at iN
      generalize partN i = A at *
      generalize slotN j = B at *
      generalize slotsR.take s = SR at *
      generalize armsR.take a = AR at *
      simp -implicitDefEqProofs (maxSteps := 1000000) only [go_sem, ↓reduceIte, reduceCtorEq, Int.reduceLT, Int.reduceLE, Int.reduceToNat, Nat.reduceAdd, Nat.reduceMul, Nat.reduceLeDiff, Nat.reduceLT, Nat.reduceSub, Int.reduceNeg, Int.reduceEq, Int.reduceBEq, Int.reduceBNe, Nat.reduceEqDiff, hC, k1, iN]
    · have iP := index_found (by decide : (2 : Int) ≠ 0) (fP i (by omega))
      by_cases hd : d = 0
      · subst hd
        unfold Leaf.row at *
        simp only [Leaf.kind, Leaf.A, Leaf.B, Leaf.d, Leaf.n, Leaf.part, hq0, and_false, if_false, w0, w0', Leaf.goal, Leaf.ga, Leaf.gb] at hC ⊢
        unfold smallV at *
        generalize partN i = A at *
        generalize slotN j = B at *
        generalize slotsR.take s = SR at *
        generalize armsR.take a = AR at *
        simp -implicitDefEqProofs (maxSteps := 1000000) only [go_sem, ↓reduceIte, reduceCtorEq, Int.reduceLT, Int.reduceLE, Int.reduceToNat, Nat.reduceAdd, Nat.reduceMul, Nat.reduceLeDiff, Nat.reduceLT, Nat.reduceSub, Int.reduceNeg, Int.reduceEq, Int.reduceBEq, Int.reduceBNe, Nat.reduceEqDiff, hC, k1, iP, iS, nil_nil]
      · have gd := g.2.2
        obtain ⟨gs, w1, w2⟩ := gs_d (d := d) (by omega) (by omega)
        have hQ := CmpS_spec gs gs_4
        rw [enc_4] at hQ
        have en := beq_ne (fun h => gs.hn (enc_nil.1 h))
        have ed := beq_ne (fun h => gs.hd (enc_nil.1 h))
        have e : cmpN 4 d ≤ 0 := cmpN_le (by omega)
        have e' : ¬ 0 < cmpN 4 d := by omega
        unfold slotR at sj
        unfold Leaf.row at *
        simp only [Leaf.kind, Leaf.A, Leaf.B, Leaf.d, Leaf.n, Leaf.part, hq0, and_false, if_false, w1, w2, Leaf.goal, Leaf.ga, Leaf.gb] at hC ⊢
        unfold smallV at *
        rw [enc_one] at hC hQ en ⊢
        generalize partN i = A at *
        generalize slotN j = B at *
        generalize slotsR.take s = SR at *
        generalize armsR.take a = AR at *
        generalize partsR.take q = PR at *
        generalize encB d = D at *
        simp -implicitDefEqProofs (maxSteps := 1000000) only [go_sem, ↓reduceIte, reduceCtorEq, Int.reduceLT, Int.reduceLE, Int.reduceToNat, Nat.reduceAdd, Nat.reduceMul, Nat.reduceLeDiff, Nat.reduceLT, Nat.reduceSub, Int.reduceNeg, Int.reduceEq, Int.reduceBEq, Int.reduceBNe, Nat.reduceEqDiff, hC, k1, iP, iS, sj, j0, jt, hQ, en, ed, e']
  | hold i j =>
    have gi := g.1
    have gj := g.2
    have iA := index_found (by decide : (1 : Int) ≠ 0) (fA j gj)
    by_cases hq0 : q = 0
    · have iN := index_missing (by decide : (2 : Int) ≠ 0) (fN i hq0)
      unfold Leaf.row at *
      simp only [Leaf.kind, Leaf.A, Leaf.B, Leaf.d, Leaf.n, Leaf.part, hq0, and_self, if_true] at hC ⊢
      rw [hq0] at iN
      unfold smallV at *
      simp only [List.take_zero] at iN
      generalize partN i = A at *
      generalize armN j = B at *
      generalize slotsR.take s = SR at *
      generalize armsR.take a = AR at *
      simp -implicitDefEqProofs (maxSteps := 1000000) only [go_sem, ↓reduceIte, reduceCtorEq, Int.reduceLT, Int.reduceLE, Int.reduceToNat, Nat.reduceAdd, Nat.reduceMul, Nat.reduceLeDiff, Nat.reduceLT, Nat.reduceSub, Int.reduceNeg, Int.reduceEq, Int.reduceBEq, Int.reduceBNe, Nat.reduceEqDiff, hC, k2, iN]
    · have iP := index_found (by decide : (2 : Int) ≠ 0) (fP i (by omega))
      unfold Leaf.row at *
      simp only [Leaf.kind, Leaf.A, Leaf.B, Leaf.d, Leaf.n, Leaf.part, hq0, and_false, if_false, w0, w0', Leaf.goal, Leaf.ga, Leaf.gb] at hC ⊢
      unfold smallV at *
      generalize partN i = A at *
      generalize armN j = B at *
      generalize slotsR.take s = SR at *
      generalize armsR.take a = AR at *
      simp -implicitDefEqProofs (maxSteps := 1000000) only [go_sem, ↓reduceIte, reduceCtorEq, Int.reduceLT, Int.reduceLE, Int.reduceToNat, Nat.reduceAdd, Nat.reduceMul, Nat.reduceLeDiff, Nat.reduceLT, Nat.reduceSub, Int.reduceNeg, Int.reduceEq, Int.reduceBEq, Int.reduceBNe, Nat.reduceEqDiff, hC, k2, iP, iA, nil_nil]
  | free j =>
    have iA := index_found (by decide : (1 : Int) ≠ 0) (fA j g)
    unfold Leaf.row at *
    simp only [Leaf.kind, Leaf.A, Leaf.B, Leaf.d, Leaf.n, Leaf.part, Bool.false_eq_true, false_and, if_false, w0, w0', Leaf.goal, Leaf.ga, Leaf.gb] at hC ⊢
    unfold smallV at *
    generalize armN j = B at *
    generalize slotsR.take s = SR at *
    generalize armsR.take a = AR at *
    simp -implicitDefEqProofs (maxSteps := 1000000) only [go_sem, ↓reduceIte, reduceCtorEq, Int.reduceLT, Int.reduceLE, Int.reduceToNat, Nat.reduceAdd, Nat.reduceMul, Nat.reduceLeDiff, Nat.reduceLT, Nat.reduceSub, Int.reduceNeg, Int.reduceEq, Int.reduceBEq, Int.reduceBNe, Nat.reduceEqDiff, hC, k3, n1, iA, nil_nil]
  | see i =>
    by_cases hq0 : q = 0
    · have iN := index_missing (by decide : (2 : Int) ≠ 0) (fN i hq0)
      unfold Leaf.row at *
      simp only [Leaf.kind, Leaf.A, Leaf.B, Leaf.d, Leaf.n, Leaf.part, hq0, and_self, if_true] at hC ⊢
      rw [hq0] at iN
      unfold smallV at *
      simp only [List.take_zero] at iN
      generalize partN i = A at *
      generalize slotsR.take s = SR at *
      generalize armsR.take a = AR at *
      simp -implicitDefEqProofs (maxSteps := 1000000) only [go_sem, ↓reduceIte, reduceCtorEq, Int.reduceLT, Int.reduceLE, Int.reduceToNat, Nat.reduceAdd, Nat.reduceMul, Nat.reduceLeDiff, Nat.reduceLT, Nat.reduceSub, Int.reduceNeg, Int.reduceEq, Int.reduceBEq, Int.reduceBNe, Nat.reduceEqDiff, hC, k4, iN]
    · have iP := index_found (by decide : (2 : Int) ≠ 0) (fP i (by have : i < p := g; omega))
      unfold Leaf.row at *
      simp only [Leaf.kind, Leaf.A, Leaf.B, Leaf.d, Leaf.n, Leaf.part, hq0, and_false, if_false, w0, w0', Leaf.goal, Leaf.ga, Leaf.gb] at hC ⊢
      unfold smallV at *
      generalize partN i = A at *
      generalize slotsR.take s = SR at *
      generalize armsR.take a = AR at *
      simp -implicitDefEqProofs (maxSteps := 1000000) only [go_sem, ↓reduceIte, reduceCtorEq, Int.reduceLT, Int.reduceLE, Int.reduceToNat, Nat.reduceAdd, Nat.reduceMul, Nat.reduceLeDiff, Nat.reduceLT, Nat.reduceSub, Int.reduceNeg, Int.reduceEq, Int.reduceBEq, Int.reduceBNe, Nat.reduceEqDiff, hC, k4, iP, n1, nil_nil]
  | wait n =>
    unfold Leaf.row at *
    simp only [Leaf.kind, Leaf.A, Leaf.B, Leaf.d, Leaf.n, Leaf.part, Bool.false_eq_true, false_and, if_false, w0, w0', Leaf.goal, Leaf.ga, Leaf.gb] at hC ⊢
    unfold smallV at *
    generalize slotsR.take s = SR at *
    generalize armsR.take a = AR at *
    simp -implicitDefEqProofs (maxSteps := 1000000) only [go_sem, ↓reduceIte, reduceCtorEq, Int.reduceLT, Int.reduceLE, Int.reduceToNat, Nat.reduceAdd, Nat.reduceMul, Nat.reduceLeDiff, Nat.reduceLT, Nat.reduceSub, Int.reduceNeg, Int.reduceEq, Int.reduceBEq, Int.reduceBNe, Nat.reduceEqDiff, hC, k5, n1, nil_nil]
end Vg.G3
