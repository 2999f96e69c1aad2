import Derived.Test.YtpclbojoknhnlaaDoorVP7
namespace Vg.G3
open Go Lg Vg.Nm
set_option linter.unusedSimpArgs false
set_option linter.unusedVariables false
set_option maxRecDepth 10000
set_option maxHeartbeats 4000000
attribute [local congr] bind_congr1
attribute [local go_sem] types_Find_r0 types_Find_r1 types_Find_r2 types_Find_r3 types_Find_r4 types_Find_r5 types_Find_r6 types_Find_r7 types_Find_r8 types_Find_r9 types_Find_r10 types_Find_r11 types_Find_r12 types_Find_r13 types_Find_r14 types_Find_r15 types_Find_r16 types_Find_r17 types_Find_r18 types_Find_r19 types_Find_r20 types_Find_r21 types_Find_r22 types_Find_r23 types_Find_r24 types_Find_r25 types_Find_f types_Find_v types_kinds_r0 types_kinds_r1 types_kinds_r2 types_kinds_r3 types_kinds_r4 types_kinds_r5 types_kinds_r6 types_kinds_r7 types_kinds_r8 types_kinds_r9 types_kinds_r10 types_kinds_f types_kinds_v types_index_r0 types_index_r1 types_index_r2 types_index_r3 types_index_r4 types_index_r5 types_index_r6 types_index_r7 types_index_r8 types_index_f types_index_v

theorem Find_part {a p s : Nat} (h1 : 1 ≤ a) (h2 : a ≤ 2) (h3 : 1 ≤ p) (h4 : p ≤ 2) (h5 : 1 ≤ s) (h6 : s ≤ 2) (lo : Nat) (h : VHeap) : callVL vp lo n_types_Find [.agg (smallV a p s), .str [98, 111, 108, 116]] h = some (.tup [.int .i64 2, .int .i64 0], h) := by
  refine call_valE (fn := types_Find_v) rfl rfl rfl rfl rfl ?_ lo h
  have w0 : IntKind.i64.wrap (0 + 1) = 1 := by decide
  have w1 : IntKind.i64.wrap (1 + 1) = 2 := by decide
  have b1 : (([97, 110, 110] : List UInt8) == [98, 111, 108, 116]) = false := by decide
  have b2 : (([98, 111, 98] : List UInt8) == [98, 111, 108, 116]) = false := by decide
  have ha : a = 1 ∨ a = 2 := by omega
  have hp : p = 1 ∨ p = 2 := by omega
  have hs : s = 1 ∨ s = 2 := by omega
  rcases ha with rfl | rfl <;> rcases hp with rfl | rfl <;> rcases hs with rfl | rfl <;> simp -implicitDefEqProofs (maxSteps := 2000000) only [types_Find_b0, types_Find_b1, types_Find_b2, types_Find_b3, go_sem, ↓reduceIte, reduceCtorEq, Int.reduceLT, Int.reduceLE, Int.reduceToNat, Nat.reduceAdd, Nat.reduceMul, Nat.reduceLeDiff, Nat.reduceLT, Nat.reduceSub, Int.reduceNeg, Int.reduceEq, Int.reduceBEq, Int.reduceBNe, Nat.reduceEqDiff, loopV_eq, ↓thenV_norm, ↓thenV_exit, ↓thenV_ret, smallV, armsR, partsR, slotsR, armR, partR, slotR, w0, w1, b1, b2, Int.lt_irrefl]
theorem Find_slot {a p s : Nat} (h1 : 1 ≤ a) (h2 : a ≤ 2) (h3 : 1 ≤ p) (h4 : p ≤ 2) (h5 : 1 ≤ s) (h6 : s ≤ 2) (lo : Nat) (h : VHeap) : callVL vp lo n_types_Find [.agg (smallV a p s), .str [104, 101, 114, 101]] h = some (.tup [.int .i64 3, .int .i64 0], h) := by
  refine call_valE (fn := types_Find_v) rfl rfl rfl rfl rfl ?_ lo h
  have w0 : IntKind.i64.wrap (0 + 1) = 1 := by decide
  have w1 : IntKind.i64.wrap (1 + 1) = 2 := by decide
  have b1 : (([97, 110, 110] : List UInt8) == [104, 101, 114, 101]) = false := by decide
  have b2 : (([98, 111, 98] : List UInt8) == [104, 101, 114, 101]) = false := by decide
  have b3 : (([98, 111, 108, 116] : List UInt8) == [104, 101, 114, 101]) = false := by decide
  have b4 : (([110, 117, 116] : List UInt8) == [104, 101, 114, 101]) = false := by decide
  have ha : a = 1 ∨ a = 2 := by omega
  have hp : p = 1 ∨ p = 2 := by omega
  have hs : s = 1 ∨ s = 2 := by omega
  rcases ha with rfl | rfl <;> rcases hp with rfl | rfl <;> rcases hs with rfl | rfl <;> simp -implicitDefEqProofs (maxSteps := 2000000) only [types_Find_b0, types_Find_b1, types_Find_b2, types_Find_b3, go_sem, ↓reduceIte, reduceCtorEq, Int.reduceLT, Int.reduceLE, Int.reduceToNat, Nat.reduceAdd, Nat.reduceMul, Nat.reduceLeDiff, Nat.reduceLT, Nat.reduceSub, Int.reduceNeg, Int.reduceEq, Int.reduceBEq, Int.reduceBNe, Nat.reduceEqDiff, loopV_eq, ↓thenV_norm, ↓thenV_exit, ↓thenV_ret, smallV, armsR, partsR, slotsR, armR, partR, slotR, w0, w1, b1, b2, b3, b4, Int.lt_irrefl]
theorem kinds_put (lo : Nat) (h : VHeap) : callVL vp lo n_types_kinds [.int .i64 1] h = some (.tup [.int .i64 2, .int .i64 3], h) := by
  refine call_valE (fn := types_kinds_v) rfl rfl rfl rfl rfl ?_ lo h
  simp -implicitDefEqProofs only [go_sem, ↓reduceIte, reduceCtorEq, Int.reduceLT, Int.reduceLE, Int.reduceToNat, Nat.reduceAdd, Nat.reduceMul, Nat.reduceLeDiff, Nat.reduceLT, Nat.reduceSub, Int.reduceNeg, Int.reduceEq, Int.reduceBEq, Int.reduceBNe, Nat.reduceEqDiff]
theorem index_at {a p s : Nat} {x : List UInt8} {k : Int} (hk : k ≠ 0) (hF : ∀ (lo : Nat) (h : VHeap), callVL vp lo n_types_Find [.agg (smallV a p s), .str x] h = some (.tup [.int .i64 k, .int .i64 0], h)) (lo : Nat) (h : VHeap) : callVL vp lo n_types_index [.agg (smallV a p s), .int .i64 k, .str x] h = some (.tup [.int .i64 0, .int .i64 0], h) := by
  refine call_valE (fn := types_index_v) rfl rfl rfl rfl rfl ?_ lo h
  unfold smallV at *
  simp -implicitDefEqProofs only [go_sem, ↓reduceIte, reduceCtorEq, Int.reduceLT, Int.reduceLE, Int.reduceToNat, Nat.reduceAdd, Nat.reduceMul, Nat.reduceLeDiff, Nat.reduceLT, Nat.reduceSub, Int.reduceNeg, Int.reduceEq, Int.reduceBEq, Int.reduceBNe, Nat.reduceEqDiff, hF, hk]
end Vg.G3
namespace Vg.G3
open Go Lg Vg.Nm
set_option linter.unusedSimpArgs false
set_option linter.unusedVariables false
set_option maxRecDepth 10000
set_option maxHeartbeats 4000000
attribute [local congr] bind_congr1
attribute [local go_sem] types_Bind_r0 types_Bind_r1 types_Bind_r2 types_Bind_r3 types_Bind_r4 types_Bind_r5 types_Bind_r6 types_Bind_r7 types_Bind_r8 types_Bind_r9 types_Bind_r10 types_Bind_r10_d types_Bind_r11 types_Bind_r12 types_Bind_f types_Bind_v

theorem nm_bolt : NM [98, 111, 108, 116] := ⟨by decide, by decide, by decide, by decide⟩
theorem nm_here : NM [104, 101, 114, 101] := ⟨by decide, by decide, by decide, by decide⟩
theorem enc_4 : encB 4 = [4] := by rw [encB_pos (by decide)]; rw [show 4 / 256 = 0 by decide, encB_zero]; rfl
theorem gs_4 : GS 1 4 := ⟨by decide, by decide, by decide, by decide, by decide⟩
theorem gs_d {d : Nat} (h : d ≠ 0) (h2 : d ≤ 1000) : GS 1 d := ⟨by decide, h, by decide, by omega, Nat.gcd_one_left d⟩
theorem Bind_put {a p s d : Nat} (h1 : 1 ≤ a) (h2 : a ≤ 2) (h3 : 1 ≤ p) (h4 : p ≤ 2) (h5 : 1 ≤ s) (h6 : s ≤ 2) (hd : d ≠ 0) (hd2 : d ≤ 1000) (lo : Nat) (h : VHeap) : callVL vp lo n_types_Bind [.agg (smallV a p s), .agg (putV [98, 111, 108, 116] [104, 101, 114, 101] 1 d)] h = some (.tup [.agg (if 4 ≤ d then [.int .i64 1, .int .i64 0, .int .i64 0, .int .i64 0] else [.int .i64 0, .int .i64 0, .int .i64 0, .int .i64 0]), .int .i64 (if 4 ≤ d then 0 else 18)], h) := by
  refine call_valE (fn := types_Bind_v) rfl rfl rfl rfl rfl ?_ lo h
  have g := gs_d hd hd2
  have hC := Check_put nm_bolt nm_here g (by decide) hd2
  have hK := kinds_put
  have hP := index_at (by decide : (2 : Int) ≠ 0) (Find_part h1 h2 h3 h4 h5 h6)
  have hS := index_at (by decide : (3 : Int) ≠ 0) (Find_slot h1 h2 h3 h4 h5 h6)
  have hQ := CmpS_spec g gs_4
  rw [enc_4] at hQ
  have en := beq_ne (fun h => g.hn (enc_nil.1 h))
  have ed := beq_ne (fun h => g.hd (enc_nil.1 h))
  have hs : s = 1 ∨ s = 2 := by omega
  by_cases h4d : 4 ≤ d
  · have e : cmpN 4 d ≤ 0 := cmpN_le (by omega)
    have e' : ¬ 0 < cmpN 4 d := by omega
    unfold smallV putV at *
    rw [enc_one] at hC hQ en ⊢
    rcases hs with rfl | rfl <;> simp only [slotsR, slotR, List.take_succ_cons, List.take_zero, List.take_nil] at hP hS <;> simp -implicitDefEqProofs (maxSteps := 1000000) only [go_sem, ↓reduceIte, reduceCtorEq, Int.reduceLT, Int.reduceLE, Int.reduceToNat, Nat.reduceAdd, Nat.reduceMul, Nat.reduceLeDiff, Nat.reduceLT, Nat.reduceSub, Int.reduceNeg, Int.reduceEq, Int.reduceBEq, Int.reduceBNe, Nat.reduceEqDiff, slotsR, slotR, hC, hK, hP, hS, hQ, en, ed, e', h4d]
  · have e' : 0 < cmpN 4 d := by rw [cmpN_gt (by omega)]; decide
    unfold smallV putV at *
    rw [enc_one] at hC hQ en ⊢
    rcases hs with rfl | rfl <;> simp only [slotsR, slotR, List.take_succ_cons, List.take_zero, List.take_nil] at hP hS <;> simp -implicitDefEqProofs (maxSteps := 1000000) only [go_sem, ↓reduceIte, reduceCtorEq, Int.reduceLT, Int.reduceLE, Int.reduceToNat, Nat.reduceAdd, Nat.reduceMul, Nat.reduceLeDiff, Nat.reduceLT, Nat.reduceSub, Int.reduceNeg, Int.reduceEq, Int.reduceBEq, Int.reduceBNe, Nat.reduceEqDiff, slotsR, slotR, hC, hK, hP, hS, hQ, en, ed, e', h4d]
end Vg.G3
namespace Vg.G3
open Go Lg Vg.Nm
set_option linter.unusedSimpArgs false
set_option linter.unusedVariables false
set_option maxRecDepth 10000
set_option maxHeartbeats 4000000
attribute [local congr] bind_congr1
attribute [local go_sem] gantmake_Of_r0 gantmake_Of_r1 gantmake_Of_r2 gantmake_Of_r3 gantmake_Of_r3_d gantmake_Of_r4 gantmake_Of_r4_d gantmake_Of_r5 gantmake_Of_f gantmake_Of_v types_Find_r0 types_Find_r1 types_Find_r2 types_Find_r3 types_Find_r4 types_Find_r5 types_Find_r6 types_Find_r7 types_Find_r8 types_Find_r9 types_Find_r10 types_Find_r11 types_Find_r12 types_Find_r13 types_Find_r14 types_Find_r15 types_Find_r16 types_Find_r17 types_Find_r18 types_Find_r19 types_Find_r20 types_Find_r21 types_Find_r22 types_Find_r23 types_Find_r24 types_Find_r25 types_Find_f types_Find_v gantkeep4_typed_r0 gantkeep4_typed_r1 gantkeep4_typed_r2 gantkeep4_typed_f gantkeep4_typed_v

theorem enc_byte {d : Nat} (h : d ≠ 0) (h2 : d < 256) : encB d = [UInt8.ofNat d] := by
  rw [encB_pos h, Nat.div_eq_of_lt h2, encB_zero, Nat.mod_eq_of_lt h2]; rfl
theorem Of11_spec (lo : Nat) (h : VHeap) : callVL vp lo n_gantmake_Of [.int .i64 1, .int .i64 1] h = some (.agg [.bool false, .str (encB 1), .str (encB 1)], h) := by
  refine call_valE (fn := gantmake_Of_v) rfl rfl rfl rfl rfl ?_ lo h
  have h1 := digits_small (n := 1) (by omega) (by omega)
  have e1 : UInt8.ofNat (Int.toNat 1) = 1 := by decide
  rw [e1, ← enc_one] at h1
  generalize encB 1 = E at *
  have m1 : max (1 : Int) (IntKind.i64.wrap (0 - 1)) = 1 := by decide
  have d1 : IntKind.i64.wrap ((1 : Int).tdiv 1) = 1 := by decide
  have t1 : (1 : Int).tmod 1 = 0 := by decide
  have hp : (0 : Int) < 1 := by decide
  have hne : ¬ ((1 : Int) = 0) := by decide
  have hz : ¬ ((1 : Int) < 0) := by decide
  simp -implicitDefEqProofs only [gantmake_Of_b0, go_sem, ↓reduceIte, reduceCtorEq, Int.reduceLT, Int.reduceLE, Int.reduceToNat, Nat.reduceAdd, Nat.reduceMul, Nat.reduceLeDiff, Nat.reduceLT, Nat.reduceSub, Int.reduceNeg, Int.reduceEq, Int.reduceBEq, Int.reduceBNe, Nat.reduceEqDiff, loopV_eq, ↓thenV_norm, ↓thenV_exit, ↓thenV_ret, h1, m1, d1, t1, hp, hz]
theorem Of1_spec {d : Nat} (hd : d ≠ 0) (hd2 : d ≤ 12) (lo : Nat) (h : VHeap) : callVL vp lo n_gantmake_Of [.int .i64 1, .int .i64 (d : Int)] h = some (.agg [.bool false, .str (encB 1), .str (encB d)], h) := by
  by_cases hd1 : d = 1
  · subst hd1; exact Of11_spec lo h
  refine call_valE (fn := gantmake_Of_v) rfl rfl rfl rfl rfl ?_ lo h
  have h1 := digits_small (n := 1) (by omega) (by omega)
  have h4 := digits_small (n := d) (by omega) (by omega)
  have e1 : UInt8.ofNat (Int.toNat 1) = 1 := by decide
  rw [e1, ← enc_one] at h1
  rw [Int.toNat_natCast, ← enc_byte hd (by omega)] at h4
  generalize encB d = D at *
  generalize encB 1 = E at *
  have m1 : max (1 : Int) (IntKind.i64.wrap (0 - 1)) = 1 := by decide
  have d1 : IntKind.i64.wrap ((1 : Int).tdiv 1) = 1 := by decide
  have hp : (0 : Int) < (d : Int) := by omega
  have hne : ¬ ((d : Int) = 0) := by omega
  have d4 : IntKind.i64.wrap ((d : Int).tdiv 1) = d := by rw [Int.tdiv_one]; exact wrap_id (by omega) (by omega)
  have t2 : (d : Int).tmod 1 = 0 := Int.tmod_one _
  have t1 : (1 : Int).tmod (d : Int) = 1 := by
    rw [Int.tmod_eq_emod_of_nonneg (by omega)]; exact Int.emod_eq_of_lt (by omega) (by omega)
  simp -implicitDefEqProofs only [gantmake_Of_b0, go_sem, ↓reduceIte, reduceCtorEq, Int.reduceLT, Int.reduceLE, Int.reduceToNat, Nat.reduceAdd, Nat.reduceMul, Nat.reduceLeDiff, Nat.reduceLT, Nat.reduceSub, Int.reduceNeg, Int.reduceEq, Int.reduceBEq, Int.reduceBNe, Nat.reduceEqDiff, loopV_eq, ↓thenV_norm, ↓thenV_exit, ↓thenV_ret, h1, h4, m1, t1, t2, d1, d4, hp, hne, Int.lt_irrefl]
theorem typed_spec (lo : Nat) (h : VHeap) : callVL vp lo n_gantkeep4_typed [] h = some (.bool true, h) := by
  refine call_valE (fn := gantkeep4_typed_v) rfl rfl rfl rfl rfl ?_ lo h
  have w0 : IntKind.i64.wrap (0 + 1) = 1 := by decide
  have hF : ∀ (lo : Nat) (h : VHeap), callVL vp lo n_types_Find [.agg [.list .s [], .list .s [], .list .s [], .list .s [[.str [97], .bool false, .str [], .str [], .bool false, .str [], .str [], .bool false, .bool false, .str [], .str [], .bool false, .str [], .str []], [.str [98], .bool false, .str [], .str [], .bool false, .str [], .str [], .bool false, .bool false, .str [], .str [], .bool false, .str [], .str []]], .list .s [], .bool false, .str [], .str []], .str [98]] h = some (.tup [.int .i64 3, .int .i64 1], h) := by
    intro lo h
    refine call_valE (fn := types_Find_v) rfl rfl rfl rfl rfl ?_ lo h
    have b : (([97] : List UInt8) == [98]) = false := by decide
    have b2 : (([98] : List UInt8) == [98]) = true := by decide
    simp -implicitDefEqProofs only [types_Find_b0, types_Find_b1, types_Find_b2, types_Find_b3, go_sem, ↓reduceIte, reduceCtorEq, Int.reduceLT, Int.reduceLE, Int.reduceToNat, Nat.reduceAdd, Nat.reduceMul, Nat.reduceLeDiff, Nat.reduceLT, Nat.reduceSub, Int.reduceNeg, Int.reduceEq, Int.reduceBEq, Int.reduceBNe, Nat.reduceEqDiff, loopV_eq, ↓thenV_norm, ↓thenV_exit, ↓thenV_ret, b, b2, w0]
  simp -implicitDefEqProofs only [go_sem, ↓reduceIte, reduceCtorEq, Int.reduceLT, Int.reduceLE, Int.reduceToNat, Nat.reduceAdd, Nat.reduceMul, Nat.reduceLeDiff, Nat.reduceLT, Nat.reduceSub, Int.reduceNeg, Int.reduceEq, Int.reduceBEq, Int.reduceBNe, Nat.reduceEqDiff, hF]
end Vg.G3
namespace Vg.G3
open Go Lg Vg.Nm
set_option linter.unusedSimpArgs false
set_option linter.unusedVariables false
set_option maxRecDepth 10000
set_option maxHeartbeats 4000000
attribute [local congr] bind_congr1
attribute [local go_sem] gantkeep4_TypesWide_r0 gantkeep4_TypesWide_r1 gantkeep4_TypesWide_r2 gantkeep4_TypesWide_r3 gantkeep4_TypesWide_r3_d gantkeep4_TypesWide_r4 gantkeep4_TypesWide_r5 gantkeep4_TypesWide_r6 gantkeep4_TypesWide_f gantkeep4_TypesWide_v

/-- The law TypesWide. -/
theorem TypesWide_law (raw : List Int) (n : Int) (lo : Nat) (h : VHeap) : callVL vp lo n_gantkeep4_TypesWide [.list .s (raw.map fun x => [.int .i64 x]), .int .i64 n] h = some (.bool true, h) := by
  refine call_valE (fn := gantkeep4_TypesWide_v) rfl rfl rfl rfl rfl ?_ lo h
  obtain ⟨a, p, s, h1, h2, h3, h4, h5, h6, hS⟩ := Small_spec raw
  have hb := belowP_bnd n 12 (by decide) (by decide)
  have hB := Below_spec n 12 (by decide)
  generalize belowP n 12 = b at *
  obtain ⟨d, rfl⟩ : ∃ d : Nat, b = (d : Int) := ⟨b.toNat, by omega⟩
  have hw : IntKind.i64.wrap (1 + (d : Int)) = ((d + 1 : Nat) : Int) := by rw [wrap_id (by omega) (by omega)]; omega
  have hO := Of1_spec (d := d + 1) (by omega) (by omega)
  have hBd := Bind_put (d := d + 1) h1 h2 h3 h4 h5 h6 (by omega) (by omega)
  have hT := typed_spec
  have hp : p = 1 ∨ p = 2 := by omega
  have hs : s = 1 ∨ s = 2 := by omega
  unfold smallV putV at *
  generalize hd1 : ((d + 1 : Nat) : Int) = D at *
  have hlt : D < 4 ↔ ¬ 4 ≤ d + 1 := by omega
  by_cases h4 : 4 ≤ d + 1
  · simp only [h4, if_true] at hBd
    have hD : ¬ D < 4 := by omega
    generalize encB (d + 1) = E at *
    generalize encB 1 = F at *
    generalize List.take a armsR = A at *
    rcases hp with rfl | rfl <;> rcases hs with rfl | rfl <;> simp only [partsR, slotsR, partR, slotR, List.take_succ_cons, List.take_zero, List.take_nil] at hS hBd <;> simp -implicitDefEqProofs (maxSteps := 2000000) only [go_sem, ↓reduceIte, reduceCtorEq, Int.reduceLT, Int.reduceLE, Int.reduceToNat, Nat.reduceAdd, Nat.reduceMul, Nat.reduceLeDiff, Nat.reduceLT, Nat.reduceSub, Int.reduceNeg, Int.reduceEq, Int.reduceBEq, Int.reduceBNe, Nat.reduceEqDiff, hS, hB, hw, hO, hBd, hT, hD]
  · simp only [h4, if_false] at hBd
    have hD : D < 4 := by omega
    generalize encB (d + 1) = E at *
    generalize encB 1 = F at *
    generalize List.take a armsR = A at *
    rcases hp with rfl | rfl <;> rcases hs with rfl | rfl <;> simp only [partsR, slotsR, partR, slotR, List.take_succ_cons, List.take_zero, List.take_nil] at hS hBd <;> simp -implicitDefEqProofs (maxSteps := 2000000) only [go_sem, ↓reduceIte, reduceCtorEq, Int.reduceLT, Int.reduceLE, Int.reduceToNat, Nat.reduceAdd, Nat.reduceMul, Nat.reduceLeDiff, Nat.reduceLT, Nat.reduceSub, Int.reduceNeg, Int.reduceEq, Int.reduceBEq, Int.reduceBNe, Nat.reduceEqDiff, hS, hB, hw, hO, hBd, hT, hD]
end Vg.G3
