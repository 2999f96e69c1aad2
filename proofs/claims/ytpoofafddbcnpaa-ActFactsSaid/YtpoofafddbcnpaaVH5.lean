import Derived.Test.YtpoofafddbcnpaaVH1
import Derived.Test.YtpoofafddbcnpaaVVgHeap2
namespace Vg.G3
open Go Lg
set_option linter.unusedSimpArgs false
set_option linter.unusedVariables false
set_option maxRecDepth 10000
set_option maxHeartbeats 2000000
attribute [local congr] bind_congr1
attribute [local go_sem] act_Check_r0 act_Check_r1 act_Check_r2 act_Check_r3 act_Check_r4 act_Check_r5 act_Check_r6 act_Check_r7 act_Check_r8 act_Check_r9 act_Check_r10 act_Check_r11 act_Check_r12 act_Check_r13 act_Check_r14 act_Check_r15 act_Check_r16 act_Check_r17 act_Check_r18 act_Check_r19 act_Check_r20 act_Check_r21 act_Check_f act_Check_v act_Held_r0 act_Held_r1 act_Held_f act_Held_v

def okP (w : Wd) (i : Nat) (x : Int) : Prop := -1 - (w.sp.length : Int) ≤ x ∧ x < w.sl ∧ (x = -1 ∨ x ∉ w.pl.take i)
def okS (w : Wd) (i : Nat) (x : Int) : Prop := -1 ≤ x ∧ ¬ (w.sl ≤ x ∧ x < 8) ∧ x < 8 + (w.pl.length : Int) ∧ (x = -1 ∨ x ∉ w.sp.take i)
/-- A world that is valid. -/
structure Ok (w : Wd) : Prop extends Small w where
  p1 : ∀ (i : Nat) (x : Int), w.pl[i]? = some x → okP w i x
  s1 : ∀ (i : Nat) (x : Int), w.sp[i]? = some x → okS w i x
theorem take_fI (l : List Int) (i : Nat) : (l.map fI).take i = (l.take i).map fI := List.map_take.symm
theorem Check_spec (w : Wd) (hpl : w.pl.length ≤ 1000) (hsp : w.sp.length ≤ 1000) (hsn : w.sn.length ≤ 1000) : ∃ e : Int, (e = 0 ↔ Ok w) ∧ ∀ lo h, callVL vp lo n_act_Check [.agg (fW w)] h = some (.int .i64 e, h) := by
  obtain ⟨P, hP⟩ : ∃ P : VV → Prop, P = fun v : VV => ∃ e : Int, (e = 0 ↔ Ok w) ∧ v = .int .i64 e := ⟨_, rfl⟩
  have key := call_val (p := vp) (f := n_act_Check) (fn := act_Check_v) (args := [.agg (fW w)]) (P := P) rfl rfl rfl rfl rfl ?_
  · obtain ⟨v, hv, hc⟩ := key; subst hP; obtain ⟨e, he, rfl⟩ := hv; exact ⟨e, he, hc⟩
  have hP0 : Ok w → P (.int .i64 0) := fun h => by subst hP; exact ⟨0, ⟨fun _ => h, fun _ => rfl⟩, rfl⟩
  have hP1 : ∀ e : Int, e ≠ 0 → ¬ Ok w → P (.int .i64 e) := fun e he h => by subst hP; exact ⟨e, ⟨fun h0 => absurd h0 he, fun h0 => absurd h0 h⟩, rfl⟩
  clear hP
  by_cases h1 : w.sl < 0
  · simp -implicitDefEqProofs only [act_Check_b0, act_Check_b1, go_sem, ↓reduceIte, reduceCtorEq, Int.reduceLT, Int.reduceLE, Int.reduceToNat, Nat.reduceAdd, Nat.reduceMul, Nat.reduceLeDiff, Nat.reduceLT, Nat.reduceSub, Int.reduceNeg, Int.reduceEq, Int.reduceBEq, Int.reduceBNe, Nat.reduceEqDiff, fW, h1]
    exact hP1 2 (by decide) fun h => by have := h.sl0; omega
  by_cases h2 : 8 < w.sl
  · simp -implicitDefEqProofs only [act_Check_b0, act_Check_b1, go_sem, ↓reduceIte, reduceCtorEq, Int.reduceLT, Int.reduceLE, Int.reduceToNat, Nat.reduceAdd, Nat.reduceMul, Nat.reduceLeDiff, Nat.reduceLT, Nat.reduceSub, Int.reduceNeg, Int.reduceEq, Int.reduceBEq, Int.reduceBNe, Nat.reduceEqDiff, fW, h1, h2]
    exact hP1 2 (by decide) fun h => by have := h.sl8; omega
  by_cases h3 : (6 : Int) < (w.pl.length : Int)
  · simp -implicitDefEqProofs only [act_Check_b0, act_Check_b1, go_sem, ↓reduceIte, reduceCtorEq, Int.reduceLT, Int.reduceLE, Int.reduceToNat, Nat.reduceAdd, Nat.reduceMul, Nat.reduceLeDiff, Nat.reduceLT, Nat.reduceSub, Int.reduceNeg, Int.reduceEq, Int.reduceBEq, Int.reduceBNe, Nat.reduceEqDiff, fW, h1, h2, h3]
    exact hP1 2 (by decide) fun h => by have := h.pl; omega
  by_cases h4 : (4 : Int) < (w.sp.length : Int)
  · simp -implicitDefEqProofs only [act_Check_b0, act_Check_b1, go_sem, ↓reduceIte, reduceCtorEq, Int.reduceLT, Int.reduceLE, Int.reduceToNat, Nat.reduceAdd, Nat.reduceMul, Nat.reduceLeDiff, Nat.reduceLT, Nat.reduceSub, Int.reduceNeg, Int.reduceEq, Int.reduceBEq, Int.reduceBNe, Nat.reduceEqDiff, fW, h1, h2, h3, h4]
    exact hP1 2 (by decide) fun h => by have := h.sp; omega
  by_cases h5 : (w.sn.length : Int) = (w.pl.length : Int)
  case neg =>
    simp -implicitDefEqProofs only [act_Check_b0, act_Check_b1, go_sem, ↓reduceIte, reduceCtorEq, Int.reduceLT, Int.reduceLE, Int.reduceToNat, Nat.reduceAdd, Nat.reduceMul, Nat.reduceLeDiff, Nat.reduceLT, Nat.reduceSub, Int.reduceNeg, Int.reduceEq, Int.reduceBEq, Int.reduceBNe, Nat.reduceEqDiff, fW, h1, h2, h3, h4, h5]
    exact hP1 3 (by decide) fun h => by have := h.sn; omega
  have hsm : Small w := ⟨by omega, by omega, by omega, by omega, by omega⟩
  have hHeld := Held_spec
  simp -implicitDefEqProofs only [go_sem, ↓reduceIte, reduceCtorEq, Int.reduceLT, Int.reduceLE, Int.reduceToNat, Nat.reduceAdd, Nat.reduceMul, Nat.reduceLeDiff, Nat.reduceLT, Nat.reduceSub, Int.reduceNeg, Int.reduceEq, Int.reduceBEq, Int.reduceBNe, Nat.reduceEqDiff, fW, h1, h2, h3, h4, h5]
  rw [Sat_bind]
  have hwl : IntKind.i64.wrap ((w.sp.length : Int) - 1) = (w.sp.length : Int) - 1 := wrap_id (by omega) (by omega)
  have hl8 : IntKind.i64.wrap (8 + (w.pl.length : Int)) = 8 + (w.pl.length : Int) := wrap_id (by omega) (by omega)
  have hH : ∀ lo h, callVL vp lo n_act_Held [.int .i64 ((w.sp.length : Int) - 1)] h = some (.int .i64 (-1 - (w.sp.length : Int)), h) := by
    intro lo h
    by_cases h0 : w.sp.length = 0
    · refine call_valE (fn := act_Held_v) rfl rfl rfl rfl rfl ?_ lo h
      have hw : IntKind.i64.wrap (-2 - ((w.sp.length : Int) - 1)) = -1 - (w.sp.length : Int) := by rw [wrap_id (by omega) (by omega)]; omega
      simp -implicitDefEqProofs only [go_sem, ↓reduceIte, reduceCtorEq, Int.reduceLT, Int.reduceLE, Int.reduceToNat, Nat.reduceAdd, Nat.reduceMul, Nat.reduceLeDiff, Nat.reduceLT, Nat.reduceSub, Int.reduceNeg, Int.reduceEq, Int.reduceBEq, Int.reduceBNe, Nat.reduceEqDiff, hw]
    · have := Held_spec ((w.sp.length : Int) - 1) (by omega) (by omega) lo h
      rw [this]; congr 3; omega
  refine loop_up (I := fun i env h' => h' = [.cells true (fW w)] ∧ (∀ j x, j < i → w.pl[j]? = some x → okP w j x) ∧ env = (VV.undef :: (.ptr 0 0 : VV) :: VV.undef :: VV.undef :: VV.undef :: VV.undef :: VV.undef :: VV.undef :: VV.undef :: VV.undef :: VV.undef :: VV.undef :: VV.undef :: VV.undef :: VV.undef :: VV.undef :: VV.undef :: VV.undef :: VV.undef :: VV.undef :: VV.undef :: VV.undef :: VV.undef :: VV.undef :: VV.undef :: VV.undef :: VV.undef :: VV.undef :: VV.undef :: VV.undef :: VV.undef :: VV.undef :: VV.undef :: VV.undef :: VV.undef :: (.list .s (w.pl.map fI) : VV) :: (.int .i64 ((w.pl.length : Nat) : Int) : VV) :: (.int .i64 ((i : Nat) : Int) : VV) :: VV.undef :: VV.undef :: VV.undef :: VV.undef :: VV.undef :: VV.undef :: VV.undef :: VV.undef :: VV.undef :: VV.undef :: VV.undef :: VV.undef :: VV.undef :: VV.undef :: VV.undef :: VV.undef :: VV.undef :: VV.undef :: VV.undef :: VV.undef :: VV.undef :: VV.undef :: VV.undef :: VV.undef :: VV.undef :: VV.undef :: VV.undef :: VV.undef :: VV.undef :: VV.undef :: VV.undef :: VV.undef :: VV.undef :: VV.undef :: VV.undef :: VV.undef :: VV.undef :: VV.undef :: VV.undef :: VV.undef :: VV.undef :: VV.undef :: VV.undef :: VV.undef :: VV.undef :: VV.undef :: VV.undef :: VV.undef :: VV.undef :: VV.undef :: VV.undef :: VV.undef :: VV.undef :: VV.undef :: VV.undef :: VV.undef :: VV.undef :: VV.undef :: VV.undef :: VV.undef :: VV.undef :: VV.undef :: VV.undef :: VV.undef :: VV.undef :: VV.undef :: VV.undef :: [])) w.pl.length ?_ ?_ (Nat.zero_le _) ⟨rfl, fun j x hj => absurd hj (Nat.not_lt_zero j), by simp -implicitDefEqProofs only [go_sem, ↓reduceIte, reduceCtorEq, Int.reduceLT, Int.reduceLE, Int.reduceToNat, Nat.reduceAdd, Nat.reduceMul, Nat.reduceLeDiff, Nat.reduceLT, Nat.reduceSub, Int.reduceNeg, Int.reduceEq, Int.reduceBEq, Int.reduceBNe, Nat.reduceEqDiff, fW]⟩
  · rintro i env h' hi ⟨rfl, hA, rfl⟩
    obtain ⟨x, hx⟩ := get_some hi
    have hi' : (i : Int) < (w.pl.length : Int) := by omega
    have hw := wrap_succ (i := i) (by omega)
    have hg := get_map (F := fI) hx
    simp only [fI] at hg
    have htk := take_fI w.pl i
    have hlt : (w.pl.take i).length ≤ 100000 := by rw [List.length_take]; omega
    have hC := Contains_i (w.pl.take i) x hlt
    have hile : i ≤ w.pl.length := by omega
    have hal := all_len (F := fI) (es := 1) (fun _ => rfl) w.pl
    by_cases a1 : w.sl ≤ x
    · simp -implicitDefEqProofs only [act_Check_b0, act_Check_b1, go_sem, ↓reduceIte, reduceCtorEq, Int.reduceLT, Int.reduceLE, Int.reduceToNat, Nat.reduceAdd, Nat.reduceMul, Nat.reduceLeDiff, Nat.reduceLT, Nat.reduceSub, Int.reduceNeg, Int.reduceEq, Int.reduceBEq, Int.reduceBNe, Nat.reduceEqDiff, fW, hi', hg, a1]
      exact hP1 1 (by decide) fun h => by have := (h.p1 i x hx).2.1; omega
    by_cases a2 : x < -1 - (w.sp.length : Int)
    · simp -implicitDefEqProofs only [act_Check_b0, act_Check_b1, go_sem, ↓reduceIte, reduceCtorEq, Int.reduceLT, Int.reduceLE, Int.reduceToNat, Nat.reduceAdd, Nat.reduceMul, Nat.reduceLeDiff, Nat.reduceLT, Nat.reduceSub, Int.reduceNeg, Int.reduceEq, Int.reduceBEq, Int.reduceBNe, Nat.reduceEqDiff, fW, hi', hg, a1, hwl, hH, a2]
      exact hP1 1 (by decide) fun h => by have := (h.p1 i x hx).1; omega
    by_cases a3 : x = -1
    · subst a3
      simp -implicitDefEqProofs only [act_Check_b0, act_Check_b1, go_sem, ↓reduceIte, reduceCtorEq, Int.reduceLT, Int.reduceLE, Int.reduceToNat, Nat.reduceAdd, Nat.reduceMul, Nat.reduceLeDiff, Nat.reduceLT, Nat.reduceSub, Int.reduceNeg, Int.reduceEq, Int.reduceBEq, Int.reduceBNe, Nat.reduceEqDiff, fW, hi', hg, a1, hwl, hH, a2, hw]
      intro j y hj hy
      rcases Nat.lt_succ_iff_lt_or_eq.1 hj with hj | rfl
      · exact hA j y hj hy
      · rw [hx] at hy; cases hy; exact ⟨by omega, by omega, .inl rfl⟩
    by_cases a4 : x ∈ w.pl.take i
    · simp -implicitDefEqProofs only [act_Check_b0, act_Check_b1, go_sem, ↓reduceIte, reduceCtorEq, Int.reduceLT, Int.reduceLE, Int.reduceToNat, Nat.reduceAdd, Nat.reduceMul, Nat.reduceLeDiff, Nat.reduceLT, Nat.reduceSub, Int.reduceNeg, Int.reduceEq, Int.reduceBEq, Int.reduceBNe, Nat.reduceEqDiff, fW, hi', hg, a1, hwl, hH, a2, a3, hal, hile, htk, hC, a4]
      exact hP1 10 (by decide) fun h => by rcases (h.p1 i x hx).2.2 with h | h <;> first | exact a3 h | exact h a4
    · simp -implicitDefEqProofs only [act_Check_b0, act_Check_b1, go_sem, ↓reduceIte, reduceCtorEq, Int.reduceLT, Int.reduceLE, Int.reduceToNat, Nat.reduceAdd, Nat.reduceMul, Nat.reduceLeDiff, Nat.reduceLT, Nat.reduceSub, Int.reduceNeg, Int.reduceEq, Int.reduceBEq, Int.reduceBNe, Nat.reduceEqDiff, fW, hi', hg, a1, hwl, hH, a2, a3, hal, hile, htk, hC, a4, hw]
      intro j y hj hy
      rcases Nat.lt_succ_iff_lt_or_eq.1 hj with hj | rfl
      · exact hA j y hj hy
      · rw [hx] at hy; cases hy; exact ⟨by omega, by omega, .inr a4⟩
  · rintro env h' ⟨rfl, hA, rfl⟩
    have hA' : ∀ (i : Nat) (x : Int), w.pl[i]? = some x → okP w i x := fun i x hx => hA i x (lt_of_getElem? hx) hx
    simp -implicitDefEqProofs only [act_Check_b0, go_sem, ↓reduceIte, reduceCtorEq, Int.reduceLT, Int.reduceLE, Int.reduceToNat, Nat.reduceAdd, Nat.reduceMul, Nat.reduceLeDiff, Nat.reduceLT, Nat.reduceSub, Int.reduceNeg, Int.reduceEq, Int.reduceBEq, Int.reduceBNe, Nat.reduceEqDiff, fW, Int.lt_irrefl]
    rw [Sat_bind]
    refine loop_up (I := fun i env h' => h' = [.cells true (fW w)] ∧ (∀ j x, j < i → w.sp[j]? = some x → okS w j x) ∧ env = (VV.undef :: (.ptr 0 0 : VV) :: VV.undef :: VV.undef :: VV.undef :: VV.undef :: VV.undef :: VV.undef :: VV.undef :: VV.undef :: VV.undef :: VV.undef :: VV.undef :: VV.undef :: VV.undef :: VV.undef :: VV.undef :: VV.undef :: VV.undef :: VV.undef :: VV.undef :: VV.undef :: VV.undef :: VV.undef :: VV.undef :: VV.undef :: VV.undef :: VV.undef :: VV.undef :: VV.undef :: VV.undef :: VV.undef :: VV.undef :: VV.undef :: VV.undef :: VV.undef :: VV.undef :: VV.undef :: VV.undef :: VV.undef :: VV.undef :: VV.undef :: VV.undef :: VV.undef :: VV.undef :: VV.undef :: VV.undef :: VV.undef :: VV.undef :: VV.undef :: VV.undef :: VV.undef :: VV.undef :: VV.undef :: VV.undef :: VV.undef :: VV.undef :: VV.undef :: VV.undef :: VV.undef :: VV.undef :: VV.undef :: VV.undef :: VV.undef :: VV.undef :: VV.undef :: VV.undef :: (.list .s (w.sp.map fI) : VV) :: (.int .i64 ((w.sp.length : Nat) : Int) : VV) :: (.int .i64 ((i : Nat) : Int) : VV) :: VV.undef :: VV.undef :: VV.undef :: VV.undef :: VV.undef :: VV.undef :: VV.undef :: VV.undef :: VV.undef :: VV.undef :: VV.undef :: VV.undef :: VV.undef :: VV.undef :: VV.undef :: VV.undef :: VV.undef :: VV.undef :: VV.undef :: VV.undef :: VV.undef :: VV.undef :: VV.undef :: VV.undef :: VV.undef :: VV.undef :: VV.undef :: VV.undef :: VV.undef :: VV.undef :: VV.undef :: VV.undef :: VV.undef :: VV.undef :: VV.undef :: [])) w.sp.length ?_ ?_ (Nat.zero_le _) ⟨rfl, fun j x hj => absurd hj (Nat.not_lt_zero j), by simp -implicitDefEqProofs only [go_sem, ↓reduceIte, reduceCtorEq, Int.reduceLT, Int.reduceLE, Int.reduceToNat, Nat.reduceAdd, Nat.reduceMul, Nat.reduceLeDiff, Nat.reduceLT, Nat.reduceSub, Int.reduceNeg, Int.reduceEq, Int.reduceBEq, Int.reduceBNe, Nat.reduceEqDiff, fW]⟩
    · rintro i env h' hi ⟨rfl, hA, rfl⟩
      obtain ⟨x, hx⟩ := get_some hi
      have hi' : (i : Int) < (w.sp.length : Int) := by omega
      have hw := wrap_succ (i := i) (by omega)
      have hg := get_map (F := fI) hx
      simp only [fI] at hg
      have htk := take_fI w.sp i
      have hlt : (w.sp.take i).length ≤ 100000 := by rw [List.length_take]; omega
      have hC := Contains_i (w.sp.take i) x hlt
      have hile : i ≤ w.sp.length := by omega
      have hal := all_len (F := fI) (es := 1) (fun _ => rfl) w.sp
      by_cases a1 : x < -1
      · simp -implicitDefEqProofs only [act_Check_b0, act_Check_b1, go_sem, ↓reduceIte, reduceCtorEq, Int.reduceLT, Int.reduceLE, Int.reduceToNat, Nat.reduceAdd, Nat.reduceMul, Nat.reduceLeDiff, Nat.reduceLT, Nat.reduceSub, Int.reduceNeg, Int.reduceEq, Int.reduceBEq, Int.reduceBNe, Nat.reduceEqDiff, fW, hi', hg, a1]
        exact hP1 1 (by decide) fun h => by have := (h.s1 i x hx).1; omega
      by_cases a2 : w.sl ≤ x ∧ x < 8
      · obtain ⟨b1, b2⟩ := a2
        simp -implicitDefEqProofs only [act_Check_b0, act_Check_b1, go_sem, ↓reduceIte, reduceCtorEq, Int.reduceLT, Int.reduceLE, Int.reduceToNat, Nat.reduceAdd, Nat.reduceMul, Nat.reduceLeDiff, Nat.reduceLT, Nat.reduceSub, Int.reduceNeg, Int.reduceEq, Int.reduceBEq, Int.reduceBNe, Nat.reduceEqDiff, fW, hi', hg, a1, b1, b2]
        exact hP1 1 (by decide) fun h => by have := (h.s1 i x hx).2.1; omega
      have a2' : decide (w.sl ≤ x) = false ∨ (decide (w.sl ≤ x) = true ∧ decide (x < 8) = false) := by
        by_cases b1 : w.sl ≤ x
        · exact .inr ⟨decide_eq_true b1, decide_eq_false fun b2 => a2 ⟨b1, b2⟩⟩
        · exact .inl (decide_eq_false b1)
      have next : (x < 8 + (w.pl.length : Int)) → (x = -1 ∨ x ∉ w.sp.take i) → ∀ j y, j < i + 1 → w.sp[j]? = some y → okS w j y := by
        intro b1 b2 j y hj hy
        rcases Nat.lt_succ_iff_lt_or_eq.1 hj with hj | rfl
        · exact hA j y hj hy
        · rw [hx] at hy; cases hy; exact ⟨by omega, a2, b1, b2⟩
      rcases a2' with b1 | ⟨b1, b2⟩
      · have b1' := of_decide_eq_false b1
        by_cases c1 : 8 + (w.pl.length : Int) ≤ x
        · simp -implicitDefEqProofs only [act_Check_b0, act_Check_b1, go_sem, ↓reduceIte, reduceCtorEq, Int.reduceLT, Int.reduceLE, Int.reduceToNat, Nat.reduceAdd, Nat.reduceMul, Nat.reduceLeDiff, Nat.reduceLT, Nat.reduceSub, Int.reduceNeg, Int.reduceEq, Int.reduceBEq, Int.reduceBNe, Nat.reduceEqDiff, fW, hi', hg, a1, b1', hl8, c1]
          exact hP1 1 (by decide) fun h => by have := (h.s1 i x hx).2.2.1; omega
        by_cases a3 : x = -1
        · subst a3
          simp -implicitDefEqProofs only [act_Check_b0, act_Check_b1, go_sem, ↓reduceIte, reduceCtorEq, Int.reduceLT, Int.reduceLE, Int.reduceToNat, Nat.reduceAdd, Nat.reduceMul, Nat.reduceLeDiff, Nat.reduceLT, Nat.reduceSub, Int.reduceNeg, Int.reduceEq, Int.reduceBEq, Int.reduceBNe, Nat.reduceEqDiff, fW, hi', hg, a1, b1', hl8, c1, hw]
          exact next (by omega) (.inl rfl)
        by_cases a4 : x ∈ w.sp.take i
        · simp -implicitDefEqProofs only [act_Check_b0, act_Check_b1, go_sem, ↓reduceIte, reduceCtorEq, Int.reduceLT, Int.reduceLE, Int.reduceToNat, Nat.reduceAdd, Nat.reduceMul, Nat.reduceLeDiff, Nat.reduceLT, Nat.reduceSub, Int.reduceNeg, Int.reduceEq, Int.reduceBEq, Int.reduceBNe, Nat.reduceEqDiff, fW, hi', hg, a1, b1', hl8, c1, a3, hal, hile, htk, hC, a4]
          exact hP1 10 (by decide) fun h => by rcases (h.s1 i x hx).2.2.2 with h | h <;> first | exact a3 h | exact h a4
        · simp -implicitDefEqProofs only [act_Check_b0, act_Check_b1, go_sem, ↓reduceIte, reduceCtorEq, Int.reduceLT, Int.reduceLE, Int.reduceToNat, Nat.reduceAdd, Nat.reduceMul, Nat.reduceLeDiff, Nat.reduceLT, Nat.reduceSub, Int.reduceNeg, Int.reduceEq, Int.reduceBEq, Int.reduceBNe, Nat.reduceEqDiff, fW, hi', hg, a1, b1', hl8, c1, a3, hal, hile, htk, hC, a4, hw]
          exact next (by omega) (.inr a4)
      · have b1' := of_decide_eq_true b1
        have b2' := of_decide_eq_false b2
        have a3 : ¬ x = -1 := by omega
        by_cases c1 : 8 + (w.pl.length : Int) ≤ x
        · simp -implicitDefEqProofs only [act_Check_b0, act_Check_b1, go_sem, ↓reduceIte, reduceCtorEq, Int.reduceLT, Int.reduceLE, Int.reduceToNat, Nat.reduceAdd, Nat.reduceMul, Nat.reduceLeDiff, Nat.reduceLT, Nat.reduceSub, Int.reduceNeg, Int.reduceEq, Int.reduceBEq, Int.reduceBNe, Nat.reduceEqDiff, fW, hi', hg, a1, b1', b2', hl8, c1]
          exact hP1 1 (by decide) fun h => by have := (h.s1 i x hx).2.2.1; omega
        by_cases a4 : x ∈ w.sp.take i
        · simp -implicitDefEqProofs only [act_Check_b0, act_Check_b1, go_sem, ↓reduceIte, reduceCtorEq, Int.reduceLT, Int.reduceLE, Int.reduceToNat, Nat.reduceAdd, Nat.reduceMul, Nat.reduceLeDiff, Nat.reduceLT, Nat.reduceSub, Int.reduceNeg, Int.reduceEq, Int.reduceBEq, Int.reduceBNe, Nat.reduceEqDiff, fW, hi', hg, a1, b1', b2', hl8, c1, a3, hal, hile, htk, hC, a4]
          exact hP1 10 (by decide) fun h => by rcases (h.s1 i x hx).2.2.2 with h | h <;> first | exact a3 h | exact h a4
        · simp -implicitDefEqProofs only [act_Check_b0, act_Check_b1, go_sem, ↓reduceIte, reduceCtorEq, Int.reduceLT, Int.reduceLE, Int.reduceToNat, Nat.reduceAdd, Nat.reduceMul, Nat.reduceLeDiff, Nat.reduceLT, Nat.reduceSub, Int.reduceNeg, Int.reduceEq, Int.reduceBEq, Int.reduceBNe, Nat.reduceEqDiff, fW, hi', hg, a1, b1', b2', hl8, c1, a3, hal, hile, htk, hC, a4, hw]
          exact next (by omega) (.inr a4)
    · rintro env h' ⟨rfl, hB, rfl⟩
      simp -implicitDefEqProofs only [act_Check_b0, act_Check_b1, go_sem, ↓reduceIte, reduceCtorEq, Int.reduceLT, Int.reduceLE, Int.reduceToNat, Nat.reduceAdd, Nat.reduceMul, Nat.reduceLeDiff, Nat.reduceLT, Nat.reduceSub, Int.reduceNeg, Int.reduceEq, Int.reduceBEq, Int.reduceBNe, Nat.reduceEqDiff, Int.lt_irrefl]
      exact hP0 ⟨hsm, hA', fun i x hx => hB i x (lt_of_getElem? hx) hx⟩
end Vg.G3
namespace Vg.G3
open Go Lg
set_option linter.unusedSimpArgs false
set_option linter.unusedVariables false
set_option maxRecDepth 10000
set_option maxHeartbeats 4000000
attribute [local congr] bind_congr1
attribute [local go_sem] act_may_r0 act_may_r1 act_may_r1_d act_may_r2 act_may_r3 act_may_r4 act_may_r5 act_may_r6 act_may_r7 act_may_r8 act_may_r9 act_may_r10 act_may_r11 act_may_r12 act_may_r13 act_may_r14 act_may_r15 act_may_r16 act_may_r17 act_may_r18 act_may_r19 act_may_r20 act_may_r21 act_may_r22 act_may_r23 act_may_r24 act_may_r25 act_may_r26 act_may_r27 act_may_r28 act_may_f act_may_v

def hereF (w : Wd) (s : Stp) : Prop := targetF w s ≠ -1 ∧ gI w.sp s.a = targetF w s
/-- What a step whose arm, part and slot exist asks for. -/
def mayF (w : Wd) (s : Stp) : Prop :=
  (s.k = 0 → ¬ (0 ≤ s.p ∧ 0 ≤ holdsF w s.a) ∧ targetF w s ≠ -1 ∧ ¬ hereF w s ∧ targetF w s ∉ w.sp) ∧
  (s.k = 1 ∨ s.k = 3 → ¬ 0 ≤ holdsF w s.a ∧ hereF w s) ∧
  (s.k = 1 → gB w.sn s.p = true) ∧ (s.k = 3 → gB w.sn s.p = false) ∧
  (s.k = 2 → 0 ≤ holdsF w s.a ∧ hereF w s ∧ ¬ 0 ≤ inF w s.s)
theorem may_spec {w : Wd} (hs : Small w) (s : Stp) (ha0 : 0 ≤ s.a) (ha : s.a < w.sp.length) (hp : s.p < w.pl.length) (hp0 : s.k = 1 ∨ s.k = 3 → 0 ≤ s.p) : ∃ e : Int, (e = 0 ↔ mayF w s) ∧ ∀ lo h, callVL vp lo n_act_may [.agg (fW w), .agg (fS s)] h = some (.int .i64 e, h) := by
  obtain ⟨P, hP⟩ : ∃ P : VV → Prop, P = fun v : VV => ∃ e : Int, (e = 0 ↔ mayF w s) ∧ v = .int .i64 e := ⟨_, rfl⟩
  have key := call_val (p := vp) (f := n_act_may) (fn := act_may_v) (args := [.agg (fW w), .agg (fS s)]) (P := P) rfl rfl rfl rfl rfl ?_
  · obtain ⟨v, hv, hc⟩ := key; subst hP; obtain ⟨e, he, rfl⟩ := hv; exact ⟨e, he, hc⟩
  have hP0 : mayF w s → P (.int .i64 0) := fun h => by subst hP; exact ⟨0, ⟨fun _ => h, fun _ => rfl⟩, rfl⟩
  have hP1 : ∀ e : Int, e ≠ 0 → ¬ mayF w s → P (.int .i64 e) := fun e he h => by subst hP; exact ⟨e, ⟨fun h0 => absurd h0 he, fun h0 => absurd h0 h⟩, rfl⟩
  clear hP
  have hT := target_spec hs s
  have hH := Holds_spec hs s.a
  have hI := In_spec hs s.s
  have hsp := get_map (F := fI) (gI_get ha0 ha)
  have hC := Contains_i w.sp (targetF w s) (by have := hs.sp; omega)
  simp only [fI] at hsp
  simp only [fW, fS] at hT hH hI
  have hsn : s.k = 1 ∨ s.k = 3 → (w.sn.map fB)[s.p.toNat]? = some [VV.bool (gB w.sn s.p)] := fun h => get_map (F := fB) (gB_get (hp0 h) (by have := hs.sn; omega))
  unfold mayF hereF at hP0 hP1
  obtain ⟨k, a, p, q, t⟩ := s
  simp only at *
  generalize targetF w ⟨k, a, p, q, t⟩ = T at *
  generalize holdsF w a = H at *
  generalize inF w q = N at *
  generalize gI w.sp a = G at *
  by_cases k0 : k = 0
  · subst k0
    by_cases b1 : T = -1
    · by_cases b2 : 0 ≤ p
      · by_cases b3 : 0 ≤ H <;> simp -implicitDefEqProofs only [go_sem, ↓reduceIte, reduceCtorEq, Int.reduceLT, Int.reduceLE, Int.reduceToNat, Nat.reduceAdd, Nat.reduceMul, Nat.reduceLeDiff, Nat.reduceLT, Nat.reduceSub, Int.reduceNeg, Int.reduceEq, Int.reduceBEq, Int.reduceBNe, Nat.reduceEqDiff, fW, fS, hT, hH, b1, b2, b3] <;> exact hP1 _ (by decide) (by simp [b1, b2, b3])
      · by_cases b3 : 0 ≤ H <;> simp -implicitDefEqProofs only [go_sem, ↓reduceIte, reduceCtorEq, Int.reduceLT, Int.reduceLE, Int.reduceToNat, Nat.reduceAdd, Nat.reduceMul, Nat.reduceLeDiff, Nat.reduceLT, Nat.reduceSub, Int.reduceNeg, Int.reduceEq, Int.reduceBEq, Int.reduceBNe, Nat.reduceEqDiff, fW, fS, hT, hH, b1, b2, b3] <;> exact hP1 _ (by decide) (by simp [b1, b2, b3])
    by_cases b4 : G = T
    · by_cases b2 : 0 ≤ p
      · by_cases b3 : 0 ≤ H <;> simp -implicitDefEqProofs only [go_sem, ↓reduceIte, reduceCtorEq, Int.reduceLT, Int.reduceLE, Int.reduceToNat, Nat.reduceAdd, Nat.reduceMul, Nat.reduceLeDiff, Nat.reduceLT, Nat.reduceSub, Int.reduceNeg, Int.reduceEq, Int.reduceBEq, Int.reduceBNe, Nat.reduceEqDiff, fW, fS, hT, hH, hsp, ha0, b1, b2, b3, b4] <;> exact hP1 _ (by decide) (by simp [b1, b2, b3, b4])
      · by_cases b3 : 0 ≤ H <;> simp -implicitDefEqProofs only [go_sem, ↓reduceIte, reduceCtorEq, Int.reduceLT, Int.reduceLE, Int.reduceToNat, Nat.reduceAdd, Nat.reduceMul, Nat.reduceLeDiff, Nat.reduceLT, Nat.reduceSub, Int.reduceNeg, Int.reduceEq, Int.reduceBEq, Int.reduceBNe, Nat.reduceEqDiff, fW, fS, hT, hH, hsp, ha0, b1, b2, b3, b4] <;> exact hP1 _ (by decide) (by simp [b1, b2, b3, b4])
    by_cases b5 : T ∈ w.sp
    · by_cases b2 : 0 ≤ p
      · by_cases b3 : 0 ≤ H <;> simp -implicitDefEqProofs only [go_sem, ↓reduceIte, reduceCtorEq, Int.reduceLT, Int.reduceLE, Int.reduceToNat, Nat.reduceAdd, Nat.reduceMul, Nat.reduceLeDiff, Nat.reduceLT, Nat.reduceSub, Int.reduceNeg, Int.reduceEq, Int.reduceBEq, Int.reduceBNe, Nat.reduceEqDiff, fW, fS, hT, hH, hsp, ha0, hC, b1, b2, b3, b4, b5] <;> exact hP1 _ (by decide) (by simp [b1, b2, b3, b4, b5])
      · by_cases b3 : 0 ≤ H <;> simp -implicitDefEqProofs only [go_sem, ↓reduceIte, reduceCtorEq, Int.reduceLT, Int.reduceLE, Int.reduceToNat, Nat.reduceAdd, Nat.reduceMul, Nat.reduceLeDiff, Nat.reduceLT, Nat.reduceSub, Int.reduceNeg, Int.reduceEq, Int.reduceBEq, Int.reduceBNe, Nat.reduceEqDiff, fW, fS, hT, hH, hsp, ha0, hC, b1, b2, b3, b4, b5] <;> exact hP1 _ (by decide) (by simp [b1, b2, b3, b4, b5])
    · by_cases b2 : 0 ≤ p
      · by_cases b3 : 0 ≤ H
        · simp -implicitDefEqProofs only [go_sem, ↓reduceIte, reduceCtorEq, Int.reduceLT, Int.reduceLE, Int.reduceToNat, Nat.reduceAdd, Nat.reduceMul, Nat.reduceLeDiff, Nat.reduceLT, Nat.reduceSub, Int.reduceNeg, Int.reduceEq, Int.reduceBEq, Int.reduceBNe, Nat.reduceEqDiff, fW, fS, hT, hH, hsp, ha0, hC, b1, b2, b3, b4, b5]
          exact hP1 _ (by decide) (by simp [b1, b2, b3, b4, b5])
        · simp -implicitDefEqProofs only [go_sem, ↓reduceIte, reduceCtorEq, Int.reduceLT, Int.reduceLE, Int.reduceToNat, Nat.reduceAdd, Nat.reduceMul, Nat.reduceLeDiff, Nat.reduceLT, Nat.reduceSub, Int.reduceNeg, Int.reduceEq, Int.reduceBEq, Int.reduceBNe, Nat.reduceEqDiff, fW, fS, hT, hH, hsp, ha0, hC, b1, b2, b3, b4, b5]
          exact hP0 (by simp [b1, b2, b3, b4, b5])
      · by_cases b3 : 0 ≤ H <;> simp -implicitDefEqProofs only [go_sem, ↓reduceIte, reduceCtorEq, Int.reduceLT, Int.reduceLE, Int.reduceToNat, Nat.reduceAdd, Nat.reduceMul, Nat.reduceLeDiff, Nat.reduceLT, Nat.reduceSub, Int.reduceNeg, Int.reduceEq, Int.reduceBEq, Int.reduceBNe, Nat.reduceEqDiff, fW, fS, hT, hH, hsp, ha0, hC, b1, b2, b3, b4, b5] <;> exact hP0 (by simp [b1, b2, b3, b4, b5])
  by_cases k1 : k = 1
  · subst k1
    have hp' := hp0 (.inl rfl)
    have hsn := hsn (.inl rfl)
    generalize gB w.sn p = B at *
    by_cases b1 : T = -1
    · by_cases b3 : 0 ≤ H <;> simp -implicitDefEqProofs only [go_sem, ↓reduceIte, reduceCtorEq, Int.reduceLT, Int.reduceLE, Int.reduceToNat, Nat.reduceAdd, Nat.reduceMul, Nat.reduceLeDiff, Nat.reduceLT, Nat.reduceSub, Int.reduceNeg, Int.reduceEq, Int.reduceBEq, Int.reduceBNe, Nat.reduceEqDiff, fW, fS, hT, hH, b1, b3] <;> exact hP1 _ (by decide) (by simp [b1, b3])
    by_cases b3 : 0 ≤ H
    · by_cases b4 : G = T <;> simp -implicitDefEqProofs only [go_sem, ↓reduceIte, reduceCtorEq, Int.reduceLT, Int.reduceLE, Int.reduceToNat, Nat.reduceAdd, Nat.reduceMul, Nat.reduceLeDiff, Nat.reduceLT, Nat.reduceSub, Int.reduceNeg, Int.reduceEq, Int.reduceBEq, Int.reduceBNe, Nat.reduceEqDiff, fW, fS, hT, hH, hsp, ha0, b1, b3, b4] <;> exact hP1 _ (by decide) (by simp [b1, b3, b4])
    by_cases b4 : G = T
    · cases B
      · simp -implicitDefEqProofs only [go_sem, ↓reduceIte, reduceCtorEq, Int.reduceLT, Int.reduceLE, Int.reduceToNat, Nat.reduceAdd, Nat.reduceMul, Nat.reduceLeDiff, Nat.reduceLT, Nat.reduceSub, Int.reduceNeg, Int.reduceEq, Int.reduceBEq, Int.reduceBNe, Nat.reduceEqDiff, fW, fS, hT, hH, hsp, ha0, b1, b3, b4, hsn, hp']
        exact hP1 _ (by decide) (by simp [b1, b3, b4])
      · simp -implicitDefEqProofs only [go_sem, ↓reduceIte, reduceCtorEq, Int.reduceLT, Int.reduceLE, Int.reduceToNat, Nat.reduceAdd, Nat.reduceMul, Nat.reduceLeDiff, Nat.reduceLT, Nat.reduceSub, Int.reduceNeg, Int.reduceEq, Int.reduceBEq, Int.reduceBNe, Nat.reduceEqDiff, fW, fS, hT, hH, hsp, ha0, b1, b3, b4, hsn, hp']
        exact hP0 (by simp [b1, b3, b4])
    · simp -implicitDefEqProofs only [go_sem, ↓reduceIte, reduceCtorEq, Int.reduceLT, Int.reduceLE, Int.reduceToNat, Nat.reduceAdd, Nat.reduceMul, Nat.reduceLeDiff, Nat.reduceLT, Nat.reduceSub, Int.reduceNeg, Int.reduceEq, Int.reduceBEq, Int.reduceBNe, Nat.reduceEqDiff, fW, fS, hT, hH, hsp, ha0, b1, b3, b4]
      exact hP1 _ (by decide) (by simp [b1, b3, b4])
  by_cases k3 : k = 3
  · subst k3
    have hp' := hp0 (.inr rfl)
    have hsn := hsn (.inr rfl)
    generalize gB w.sn p = B at *
    by_cases b1 : T = -1
    · by_cases b3 : 0 ≤ H <;> simp -implicitDefEqProofs only [go_sem, ↓reduceIte, reduceCtorEq, Int.reduceLT, Int.reduceLE, Int.reduceToNat, Nat.reduceAdd, Nat.reduceMul, Nat.reduceLeDiff, Nat.reduceLT, Nat.reduceSub, Int.reduceNeg, Int.reduceEq, Int.reduceBEq, Int.reduceBNe, Nat.reduceEqDiff, fW, fS, hT, hH, b1, b3] <;> exact hP1 _ (by decide) (by simp [b1, b3])
    by_cases b3 : 0 ≤ H
    · by_cases b4 : G = T <;> simp -implicitDefEqProofs only [go_sem, ↓reduceIte, reduceCtorEq, Int.reduceLT, Int.reduceLE, Int.reduceToNat, Nat.reduceAdd, Nat.reduceMul, Nat.reduceLeDiff, Nat.reduceLT, Nat.reduceSub, Int.reduceNeg, Int.reduceEq, Int.reduceBEq, Int.reduceBNe, Nat.reduceEqDiff, fW, fS, hT, hH, hsp, ha0, b1, b3, b4] <;> exact hP1 _ (by decide) (by simp [b1, b3, b4])
    by_cases b4 : G = T
    · cases B
      · simp -implicitDefEqProofs only [go_sem, ↓reduceIte, reduceCtorEq, Int.reduceLT, Int.reduceLE, Int.reduceToNat, Nat.reduceAdd, Nat.reduceMul, Nat.reduceLeDiff, Nat.reduceLT, Nat.reduceSub, Int.reduceNeg, Int.reduceEq, Int.reduceBEq, Int.reduceBNe, Nat.reduceEqDiff, fW, fS, hT, hH, hsp, ha0, b1, b3, b4, hsn, hp']
        exact hP0 (by simp [b1, b3, b4])
      · simp -implicitDefEqProofs only [go_sem, ↓reduceIte, reduceCtorEq, Int.reduceLT, Int.reduceLE, Int.reduceToNat, Nat.reduceAdd, Nat.reduceMul, Nat.reduceLeDiff, Nat.reduceLT, Nat.reduceSub, Int.reduceNeg, Int.reduceEq, Int.reduceBEq, Int.reduceBNe, Nat.reduceEqDiff, fW, fS, hT, hH, hsp, ha0, b1, b3, b4, hsn, hp']
        exact hP1 _ (by decide) (by simp [b1, b3, b4])
    · simp -implicitDefEqProofs only [go_sem, ↓reduceIte, reduceCtorEq, Int.reduceLT, Int.reduceLE, Int.reduceToNat, Nat.reduceAdd, Nat.reduceMul, Nat.reduceLeDiff, Nat.reduceLT, Nat.reduceSub, Int.reduceNeg, Int.reduceEq, Int.reduceBEq, Int.reduceBNe, Nat.reduceEqDiff, fW, fS, hT, hH, hsp, ha0, b1, b3, b4]
      exact hP1 _ (by decide) (by simp [b1, b3, b4])
  by_cases k2 : k = 2
  · subst k2
    by_cases b1 : T = -1
    · by_cases b3 : 0 ≤ H <;> simp -implicitDefEqProofs only [go_sem, ↓reduceIte, reduceCtorEq, Int.reduceLT, Int.reduceLE, Int.reduceToNat, Nat.reduceAdd, Nat.reduceMul, Nat.reduceLeDiff, Nat.reduceLT, Nat.reduceSub, Int.reduceNeg, Int.reduceEq, Int.reduceBEq, Int.reduceBNe, Nat.reduceEqDiff, fW, fS, hT, hH, b1, b3] <;> exact hP1 _ (by decide) (by simp [b1, b3])
    by_cases b3 : 0 ≤ H
    · by_cases b4 : G = T
      · by_cases b5 : 0 ≤ N
        · simp -implicitDefEqProofs only [go_sem, ↓reduceIte, reduceCtorEq, Int.reduceLT, Int.reduceLE, Int.reduceToNat, Nat.reduceAdd, Nat.reduceMul, Nat.reduceLeDiff, Nat.reduceLT, Nat.reduceSub, Int.reduceNeg, Int.reduceEq, Int.reduceBEq, Int.reduceBNe, Nat.reduceEqDiff, fW, fS, hT, hH, hI, hsp, ha0, b1, b3, b4, b5]
          exact hP1 _ (by decide) (by simp [b1, b3, b4, b5])
        · simp -implicitDefEqProofs only [go_sem, ↓reduceIte, reduceCtorEq, Int.reduceLT, Int.reduceLE, Int.reduceToNat, Nat.reduceAdd, Nat.reduceMul, Nat.reduceLeDiff, Nat.reduceLT, Nat.reduceSub, Int.reduceNeg, Int.reduceEq, Int.reduceBEq, Int.reduceBNe, Nat.reduceEqDiff, fW, fS, hT, hH, hI, hsp, ha0, b1, b3, b4, b5]
          exact hP0 (by simp [b1, b3, b4]; omega)
      · simp -implicitDefEqProofs only [go_sem, ↓reduceIte, reduceCtorEq, Int.reduceLT, Int.reduceLE, Int.reduceToNat, Nat.reduceAdd, Nat.reduceMul, Nat.reduceLeDiff, Nat.reduceLT, Nat.reduceSub, Int.reduceNeg, Int.reduceEq, Int.reduceBEq, Int.reduceBNe, Nat.reduceEqDiff, fW, fS, hT, hH, hsp, ha0, b1, b3, b4]
        exact hP1 _ (by decide) (by simp [b1, b3, b4])
    · by_cases b4 : G = T <;> simp -implicitDefEqProofs only [go_sem, ↓reduceIte, reduceCtorEq, Int.reduceLT, Int.reduceLE, Int.reduceToNat, Nat.reduceAdd, Nat.reduceMul, Nat.reduceLeDiff, Nat.reduceLT, Nat.reduceSub, Int.reduceNeg, Int.reduceEq, Int.reduceBEq, Int.reduceBNe, Nat.reduceEqDiff, fW, fS, hT, hH, hsp, ha0, b1, b3, b4] <;> exact hP1 _ (by decide) (by simp [b1, b3, b4])
  · have hok := hP0 (by simp [k0, k1, k2, k3])
    by_cases b1 : T = -1
    · by_cases b3 : 0 ≤ H <;> simp -implicitDefEqProofs only [go_sem, ↓reduceIte, reduceCtorEq, Int.reduceLT, Int.reduceLE, Int.reduceToNat, Nat.reduceAdd, Nat.reduceMul, Nat.reduceLeDiff, Nat.reduceLT, Nat.reduceSub, Int.reduceNeg, Int.reduceEq, Int.reduceBEq, Int.reduceBNe, Nat.reduceEqDiff, fW, fS, hT, hH, k0, k1, k2, k3, b1, b3] <;> exact hok
    · by_cases b3 : 0 ≤ H <;> by_cases b4 : G = T <;> simp -implicitDefEqProofs only [go_sem, ↓reduceIte, reduceCtorEq, Int.reduceLT, Int.reduceLE, Int.reduceToNat, Nat.reduceAdd, Nat.reduceMul, Nat.reduceLeDiff, Nat.reduceLT, Nat.reduceSub, Int.reduceNeg, Int.reduceEq, Int.reduceBEq, Int.reduceBNe, Nat.reduceEqDiff, fW, fS, hT, hH, hsp, ha0, k0, k1, k2, k3, b1, b3, b4] <;> exact hok
end Vg.G3
namespace Vg.G3
open Go Lg
set_option linter.unusedSimpArgs false
set_option linter.unusedVariables false
set_option maxRecDepth 10000
set_option maxHeartbeats 4000000
attribute [local congr] bind_congr1
attribute [local go_sem] act_Copy_r0 act_Copy_r1 act_Copy_r1_d act_Copy_f act_Copy_v
def cpW (w : Wd) (n : Nat) : List VV := [.int .i64 w.sl, .hs (n + 3) 0 w.pl.length 1, .hs (n + 5) 0 w.sn.length 1, .hs (n + 7) 0 w.sp.length 1]
def cpH (w : Wd) (n : Nat) : VHeap := [.cells true (fW w), .dead, .dead, .cells true (w.pl.map fI).flatten, .dead, .cells true (w.sn.map fB).flatten, .dead, .cells true (w.sp.map fI).flatten, .cells true (cpW w n)]
theorem Copy_spec (w : Wd) (h1 : 1 ≤ w.pl.length) (h2 : 1 ≤ w.sn.length) (h3 : 1 ≤ w.sp.length) (b1 : w.pl.length ≤ 1000) (b2 : w.sn.length ≤ 1000) (b3 : w.sp.length ≤ 1000) (lo : Nat) (h : VHeap) (hlo : lo ≤ h.length) :
    callVL vp lo n_act_Copy [.agg (fW w)] h = some (.agg (cpW w h.length), h ++ cpH w h.length) := by
  have key := call_body (p := vp) (lo := lo) (h := h) (f := n_act_Copy) (fn := act_Copy_v) (args := [.agg (fW w)]) (P := fun r => r = (VV.agg (cpW w h.length), h ++ cpH w h.length)) rfl (.inr rfl) rfl ?_
  · obtain ⟨r, hr, rfl⟩ := key; exact hr
  have hlo' : ∀ k, lo ≤ h.length + k := fun k => Nat.le_trans hlo (Nat.le_add_right _ _)
  have hfI : ∀ l : List Int, (l.map fI).flatten.all scal = true := fun l => all_flat fun r hr => by obtain ⟨w, _, rfl⟩ := List.mem_map.1 hr; rfl
  have hfB : ∀ l : List Bool, (l.map fB).flatten.all scal = true := fun l => all_flat fun r hr => by obtain ⟨w, _, rfl⟩ := List.mem_map.1 hr; rfl
  have e1 : w.pl.map fI ≠ [] := by intro e; rw [List.map_eq_nil_iff] at e; rw [e] at h1; exact absurd h1 (by decide)
  have e2 : w.sn.map fB ≠ [] := by intro e; rw [List.map_eq_nil_iff] at e; rw [e] at h2; exact absurd h2 (by decide)
  have e3 : w.sp.map fI ≠ [] := by intro e; rw [List.map_eq_nil_iff] at e; rw [e] at h3; exact absurd h3 (by decide)
  have c1 : ∀ l : VHeap, callVL vp lo n_slices_Clone_intint [.list .s (w.pl.map fI)] (h ++ l) = some (.hs (h.length + (l.length + 1)) 0 w.pl.length 1, h ++ (l ++ [.dead, .cells true (w.pl.map fI).flatten])) := fun l => by
    have := cloneM_call (p := vp) (f := n_slices_Clone_intint) (pu := false) (es := 1) (bytes := 8) (lo := lo) (rows := w.pl.map fI) (h := h ++ l) rfl (by rw [List.all_eq_true]; intro r hr; obtain ⟨w, _, rfl⟩ := List.mem_map.1 hr; rfl) (hfI _) (by rw [List.length_map]; omega) (by rw [List.length_append]; exact Nat.le_trans hlo (Nat.le_add_right _ _))
    rw [this, if_neg e1, List.length_map, List.length_append, List.append_assoc, Nat.add_assoc]
  have c2 : ∀ l : VHeap, callVL vp lo n_slices_Clone_boolbool [.list .s (w.sn.map fB)] (h ++ l) = some (.hs (h.length + (l.length + 1)) 0 w.sn.length 1, h ++ (l ++ [.dead, .cells true (w.sn.map fB).flatten])) := fun l => by
    have := cloneM_call (p := vp) (f := n_slices_Clone_boolbool) (pu := false) (es := 1) (bytes := 1) (lo := lo) (rows := w.sn.map fB) (h := h ++ l) rfl (by rw [List.all_eq_true]; intro r hr; obtain ⟨w, _, rfl⟩ := List.mem_map.1 hr; rfl) (hfB _) (by rw [List.length_map]; omega) (by rw [List.length_append]; exact Nat.le_trans hlo (Nat.le_add_right _ _))
    rw [this, if_neg e2, List.length_map, List.length_append, List.append_assoc, Nat.add_assoc]
  have c3 : ∀ l : VHeap, callVL vp lo n_slices_Clone_intint [.list .s (w.sp.map fI)] (h ++ l) = some (.hs (h.length + (l.length + 1)) 0 w.sp.length 1, h ++ (l ++ [.dead, .cells true (w.sp.map fI).flatten])) := fun l => by
    have := cloneM_call (p := vp) (f := n_slices_Clone_intint) (pu := false) (es := 1) (bytes := 8) (lo := lo) (rows := w.sp.map fI) (h := h ++ l) rfl (by rw [List.all_eq_true]; intro r hr; obtain ⟨w, _, rfl⟩ := List.mem_map.1 hr; rfl) (hfI _) (by rw [List.length_map]; omega) (by rw [List.length_append]; exact Nat.le_trans hlo (Nat.le_add_right _ _))
    rw [this, if_neg e3, List.length_map, List.length_append, List.append_assoc, Nat.add_assoc]
  simp -implicitDefEqProofs only [go_sem, ↓reduceIte, reduceCtorEq, Int.reduceLT, Int.reduceLE, Int.reduceToNat, Nat.reduceAdd, Nat.reduceMul, Nat.reduceLeDiff, Nat.reduceLT, Nat.reduceSub, Int.reduceNeg, Int.reduceEq, Int.reduceBEq, Int.reduceBNe, Nat.reduceEqDiff, ap_get0, ap_get, ap_set0, ap_set, ap_take, ap_sub, ap_le, List.append_assoc, Nat.add_assoc, Nat.add_lt_add_iff_left, Nat.lt_add_right_iff_pos, fW, c1, c2, c3, hlo', cpW, cpH]
end Vg.G3
