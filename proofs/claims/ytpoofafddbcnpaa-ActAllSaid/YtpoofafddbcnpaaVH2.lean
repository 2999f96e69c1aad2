import Derived.Test.YtpoofafddbcnpaaVH1
import Derived.Test.YtpoofafddbcnpaaVVgHeap
namespace Vg.G3
open Go Lg
set_option linter.unusedSimpArgs false
set_option linter.unusedVariables false
set_option maxRecDepth 10000
set_option maxHeartbeats 2000000
attribute [local congr] bind_congr1
attribute [local go_sem] act_Check_r0 act_Check_r1 act_Check_r2 act_Check_r3 act_Check_r4 act_Check_r5 act_Check_r6 act_Check_r7 act_Check_r8 act_Check_r9 act_Check_r10 act_Check_r11 act_Check_r12 act_Check_r13 act_Check_r14 act_Check_r15 act_Check_r16 act_Check_r17 act_Check_r18 act_Check_r19 act_Check_r20 act_Check_r21 act_Check_f act_Check_v act_Held_r0 act_Held_r1 act_Held_f act_Held_v

def okP (w : Wd) (i : Nat) (x : Int) : Prop := -1 - (w.sp.length : Int) ≤ x ∧ x < w.sl ∧ (x = -1 ∨ x ∉ w.pl.take i)
def okS (w : Wd) (i : Nat) (x : Int) : Prop := -1 ≤ x ∧ ¬ (w.sl ≤ x ∧ x < 8) ∧ x < 8 + (w.pl.length : Int) ∧ (x = -1 ∨ x ∉ w.sp.take i)
/-- A world that is valid. -/
structure Ok (w : Wd) : Prop extends Small w where
  p1 : ∀ (i : Nat) (x : Int), w.pl[i]? = some x → okP w i x
  s1 : ∀ (i : Nat) (x : Int), w.sp[i]? = some x → okS w i x
theorem take_fI (l : List Int) (i : Nat) : (l.map fI).take i = (l.take i).map fI := List.map_take.symm
theorem Check_spec (w : Wd) (hpl : w.pl.length ≤ 1000) (hsp : w.sp.length ≤ 1000) (hsn : w.sn.length ≤ 1000) : ∃ e : Int, (e = 0 ↔ Ok w) ∧ ∀ lo h, callVL vp lo n_act_Check [.agg (fW w)] h = some (.int .i64 e, h) := by
  obtain ⟨P, hP⟩ : ∃ P : VV → Prop, P = fun v : VV => ∃ e : Int, (e = 0 ↔ Ok w) ∧ v = .int .i64 e := ⟨_, rfl⟩
  have key := call_val (p := vp) (f := n_act_Check) (fn := act_Check_v) (args := [.agg (fW w)]) (P := P) rfl rfl rfl rfl rfl ?_
  · obtain ⟨v, hv, hc⟩ := key; subst hP; obtain ⟨e, he, rfl⟩ := hv; exact ⟨e, he, hc⟩
  have hP0 : Ok w → P (.int .i64 0) := fun h => by subst hP; exact ⟨0, ⟨fun _ => h, fun _ => rfl⟩, rfl⟩
  have hP1 : ∀ e : Int, e ≠ 0 → ¬ Ok w → P (.int .i64 e) := fun e he h => by subst hP; exact ⟨e, ⟨fun h0 => absurd h0 he, fun h0 => absurd h0 h⟩, rfl⟩
  clear hP
  by_cases h1 : w.sl < 0
  · simp -implicitDefEqProofs only [act_Check_b0, act_Check_b1, go_sem, ↓reduceIte, reduceCtorEq, Int.reduceLT, Int.reduceLE, Int.reduceToNat, Nat.reduceAdd, Nat.reduceMul, Nat.reduceLeDiff, Nat.reduceLT, Nat.reduceSub, Int.reduceNeg, Int.reduceEq, Int.reduceBEq, Int.reduceBNe, Nat.reduceEqDiff, fW, h1]
    exact hP1 2 (by decide) fun h => by have := h.sl0; omega
  by_cases h2 : 8 < w.sl
  · simp -implicitDefEqProofs only [act_Check_b0, act_Check_b1, go_sem, ↓reduceIte, reduceCtorEq, Int.reduceLT, Int.reduceLE, Int.reduceToNat, Nat.reduceAdd, Nat.reduceMul, Nat.reduceLeDiff, Nat.reduceLT, Nat.reduceSub, Int.reduceNeg, Int.reduceEq, Int.reduceBEq, Int.reduceBNe, Nat.reduceEqDiff, fW, h1, h2]
    exact hP1 2 (by decide) fun h => by have := h.sl8; omega
  by_cases h3 : (6 : Int) < (w.pl.length : Int)
  · simp -implicitDefEqProofs only [act_Check_b0, act_Check_b1, go_sem, ↓reduceIte, reduceCtorEq, Int.reduceLT, Int.reduceLE, Int.reduceToNat, Nat.reduceAdd, Nat.reduceMul, Nat.reduceLeDiff, Nat.reduceLT, Nat.reduceSub, Int.reduceNeg, Int.reduceEq, Int.reduceBEq, Int.reduceBNe, Nat.reduceEqDiff, fW, h1, h2, h3]
    exact hP1 2 (by decide) fun h => by have := h.pl; omega
  by_cases h4 : (4 : Int) < (w.sp.length : Int)
  · simp -implicitDefEqProofs only [act_Check_b0, act_Check_b1, go_sem, ↓reduceIte, reduceCtorEq, Int.reduceLT, Int.reduceLE, Int.reduceToNat, Nat.reduceAdd, Nat.reduceMul, Nat.reduceLeDiff, Nat.reduceLT, Nat.reduceSub, Int.reduceNeg, Int.reduceEq, Int.reduceBEq, Int.reduceBNe, Nat.reduceEqDiff, fW, h1, h2, h3, h4]
    exact hP1 2 (by decide) fun h => by have := h.sp; omega
  by_cases h5 : (w.sn.length : Int) = (w.pl.length : Int)
  case neg =>
    simp -implicitDefEqProofs only [act_Check_b0, act_Check_b1, go_sem, ↓reduceIte, reduceCtorEq, Int.reduceLT, Int.reduceLE, Int.reduceToNat, Nat.reduceAdd, Nat.reduceMul, Nat.reduceLeDiff, Nat.reduceLT, Nat.reduceSub, Int.reduceNeg, Int.reduceEq, Int.reduceBEq, Int.reduceBNe, Nat.reduceEqDiff, fW, h1, h2, h3, h4, h5]
    exact hP1 3 (by decide) fun h => by have := h.sn; omega
  have hsm : Small w := ⟨by omega, by omega, by omega, by omega, by omega⟩
  have hHeld := Held_spec
  simp -implicitDefEqProofs only [go_sem, ↓reduceIte, reduceCtorEq, Int.reduceLT, Int.reduceLE, Int.reduceToNat, Nat.reduceAdd, Nat.reduceMul, Nat.reduceLeDiff, Nat.reduceLT, Nat.reduceSub, Int.reduceNeg, Int.reduceEq, Int.reduceBEq, Int.reduceBNe, Nat.reduceEqDiff, fW, h1, h2, h3, h4, h5]
  rw [Sat_bind]
  have hwl : IntKind.i64.wrap ((w.sp.length : Int) - 1) = (w.sp.length : Int) - 1 := wrap_id (by omega) (by omega)
  have hl8 : IntKind.i64.wrap (8 + (w.pl.length : Int)) = 8 + (w.pl.length : Int) := wrap_id (by omega) (by omega)
  have hH : ∀ lo h, callVL vp lo n_act_Held [.int .i64 ((w.sp.length : Int) - 1)] h = some (.int .i64 (-1 - (w.sp.length : Int)), h) := by
    intro lo h
    by_cases h0 : w.sp.length = 0
    · refine call_valE (fn := act_Held_v) rfl rfl rfl rfl rfl ?_ lo h
      have hw : IntKind.i64.wrap (-2 - ((w.sp.length : Int) - 1)) = -1 - (w.sp.length : Int) := by rw [wrap_id (by omega) (by omega)]; omega
      simp -implicitDefEqProofs only [go_sem, ↓reduceIte, reduceCtorEq, Int.reduceLT, Int.reduceLE, Int.reduceToNat, Nat.reduceAdd, Nat.reduceMul, Nat.reduceLeDiff, Nat.reduceLT, Nat.reduceSub, Int.reduceNeg, Int.reduceEq, Int.reduceBEq, Int.reduceBNe, Nat.reduceEqDiff, hw]
    · have := Held_spec ((w.sp.length : Int) - 1) (by omega) (by omega) lo h
      rw [this]; congr 3; omega
  refine loop_up (I := fun i env h' => h' = [.cells true (fW w)] ∧ (∀ j x, j < i → w.pl[j]? = some x → okP w j x) ∧ env = (VV.undef :: (.ptr 0 0 : VV) :: VV.undef :: VV.undef :: VV.undef :: VV.undef :: VV.undef :: VV.undef :: VV.undef :: VV.undef :: VV.undef :: VV.undef :: VV.undef :: VV.undef :: VV.undef :: VV.undef :: VV.undef :: VV.undef :: VV.undef :: VV.undef :: VV.undef :: VV.undef :: VV.undef :: VV.undef :: VV.undef :: VV.undef :: VV.undef :: VV.undef :: VV.undef :: VV.undef :: VV.undef :: VV.undef :: VV.undef :: VV.undef :: VV.undef :: (.list .s (w.pl.map fI) : VV) :: (.int .i64 ((w.pl.length : Nat) : Int) : VV) :: (.int .i64 ((i : Nat) : Int) : VV) :: VV.undef :: VV.undef :: VV.undef :: VV.undef :: VV.undef :: VV.undef :: VV.undef :: VV.undef :: VV.undef :: VV.undef :: VV.undef :: VV.undef :: VV.undef :: VV.undef :: VV.undef :: VV.undef :: VV.undef :: VV.undef :: VV.undef :: VV.undef :: VV.undef :: VV.undef :: VV.undef :: VV.undef :: VV.undef :: VV.undef :: VV.undef :: VV.undef :: VV.undef :: VV.undef :: VV.undef :: VV.undef :: VV.undef :: VV.undef :: VV.undef :: VV.undef :: VV.undef :: VV.undef :: VV.undef :: VV.undef :: VV.undef :: VV.undef :: VV.undef :: VV.undef :: VV.undef :: VV.undef :: VV.undef :: VV.undef :: VV.undef :: VV.undef :: VV.undef :: VV.undef :: VV.undef :: VV.undef :: VV.undef :: VV.undef :: VV.undef :: VV.undef :: VV.undef :: VV.undef :: VV.undef :: VV.undef :: VV.undef :: VV.undef :: VV.undef :: VV.undef :: VV.undef :: [])) w.pl.length ?_ ?_ (Nat.zero_le _) ⟨rfl, fun j x hj => absurd hj (Nat.not_lt_zero j), by simp -implicitDefEqProofs only [go_sem, ↓reduceIte, reduceCtorEq, Int.reduceLT, Int.reduceLE, Int.reduceToNat, Nat.reduceAdd, Nat.reduceMul, Nat.reduceLeDiff, Nat.reduceLT, Nat.reduceSub, Int.reduceNeg, Int.reduceEq, Int.reduceBEq, Int.reduceBNe, Nat.reduceEqDiff, fW]⟩
  · rintro i env h' hi ⟨rfl, hA, rfl⟩
    obtain ⟨x, hx⟩ := get_some hi
    have hi' : (i : Int) < (w.pl.length : Int) := by omega
    have hw := wrap_succ (i := i) (by omega)
    have hg := get_map (F := fI) hx
    simp only [fI] at hg
    have htk := take_fI w.pl i
    have hlt : (w.pl.take i).length ≤ 100000 := by rw [List.length_take]; omega
    have hC := Contains_i (w.pl.take i) x hlt
    have hile : i ≤ w.pl.length := by omega
    have hal := all_len (F := fI) (es := 1) (fun _ => rfl) w.pl
    by_cases a1 : w.sl ≤ x
    · simp -implicitDefEqProofs only [act_Check_b0, act_Check_b1, go_sem, ↓reduceIte, reduceCtorEq, Int.reduceLT, Int.reduceLE, Int.reduceToNat, Nat.reduceAdd, Nat.reduceMul, Nat.reduceLeDiff, Nat.reduceLT, Nat.reduceSub, Int.reduceNeg, Int.reduceEq, Int.reduceBEq, Int.reduceBNe, Nat.reduceEqDiff, fW, hi', hg, a1]
      exact hP1 1 (by decide) fun h => by have := (h.p1 i x hx).2.1; omega
    by_cases a2 : x < -1 - (w.sp.length : Int)
    · simp -implicitDefEqProofs only [act_Check_b0, act_Check_b1, go_sem, ↓reduceIte, reduceCtorEq, Int.reduceLT, Int.reduceLE, Int.reduceToNat, Nat.reduceAdd, Nat.reduceMul, Nat.reduceLeDiff, Nat.reduceLT, Nat.reduceSub, Int.reduceNeg, Int.reduceEq, Int.reduceBEq, Int.reduceBNe, Nat.reduceEqDiff, fW, hi', hg, a1, hwl, hH, a2]
      exact hP1 1 (by decide) fun h => by have := (h.p1 i x hx).1; omega
    by_cases a3 : x = -1
    · subst a3
      simp -implicitDefEqProofs only [act_Check_b0, act_Check_b1, go_sem, ↓reduceIte, reduceCtorEq, Int.reduceLT, Int.reduceLE, Int.reduceToNat, Nat.reduceAdd, Nat.reduceMul, Nat.reduceLeDiff, Nat.reduceLT, Nat.reduceSub, Int.reduceNeg, Int.reduceEq, Int.reduceBEq, Int.reduceBNe, Nat.reduceEqDiff, fW, hi', hg, a1, hwl, hH, a2, hw]
      intro j y hj hy
      rcases Nat.lt_succ_iff_lt_or_eq.1 hj with hj | rfl
      · exact hA j y hj hy
      · rw [hx] at hy; cases hy; exact ⟨by omega, by omega, .inl rfl⟩
    by_cases a4 : x ∈ w.pl.take i
    · simp -implicitDefEqProofs only [act_Check_b0, act_Check_b1, go_sem, ↓reduceIte, reduceCtorEq, Int.reduceLT, Int.reduceLE, Int.reduceToNat, Nat.reduceAdd, Nat.reduceMul, Nat.reduceLeDiff, Nat.reduceLT, Nat.reduceSub, Int.reduceNeg, Int.reduceEq, Int.reduceBEq, Int.reduceBNe, Nat.reduceEqDiff, fW, hi', hg, a1, hwl, hH, a2, a3, hal, hile, htk, hC, a4]
      exact hP1 10 (by decide) fun h => by rcases (h.p1 i x hx).2.2 with h | h <;> first | exact a3 h | exact h a4
    · simp -implicitDefEqProofs only [act_Check_b0, act_Check_b1, go_sem, ↓reduceIte, reduceCtorEq, Int.reduceLT, Int.reduceLE, Int.reduceToNat, Nat.reduceAdd, Nat.reduceMul, Nat.reduceLeDiff, Nat.reduceLT, Nat.reduceSub, Int.reduceNeg, Int.reduceEq, Int.reduceBEq, Int.reduceBNe, Nat.reduceEqDiff, fW, hi', hg, a1, hwl, hH, a2, a3, hal, hile, htk, hC, a4, hw]
      intro j y hj hy
      rcases Nat.lt_succ_iff_lt_or_eq.1 hj with hj | rfl
      · exact hA j y hj hy
      · rw [hx] at hy; cases hy; exact ⟨by omega, by omega, .inr a4⟩
  · rintro env h' ⟨rfl, hA, rfl⟩
    have hA' : ∀ (i : Nat) (x : Int), w.pl[i]? = some x → okP w i x := fun i x hx => hA i x (lt_of_getElem? hx) hx
    simp -implicitDefEqProofs only [act_Check_b0, go_sem, ↓reduceIte, reduceCtorEq, Int.reduceLT, Int.reduceLE, Int.reduceToNat, Nat.reduceAdd, Nat.reduceMul, Nat.reduceLeDiff, Nat.reduceLT, Nat.reduceSub, Int.reduceNeg, Int.reduceEq, Int.reduceBEq, Int.reduceBNe, Nat.reduceEqDiff, fW, Int.lt_irrefl]
    rw [Sat_bind]
    refine loop_up (I := fun i env h' => h' = [.cells true (fW w)] ∧ (∀ j x, j < i → w.sp[j]? = some x → okS w j x) ∧ env = (VV.undef :: (.ptr 0 0 : VV) :: VV.undef :: VV.undef :: VV.undef :: VV.undef :: VV.undef :: VV.undef :: VV.undef :: VV.undef :: VV.undef :: VV.undef :: VV.undef :: VV.undef :: VV.undef :: VV.undef :: VV.undef :: VV.undef :: VV.undef :: VV.undef :: VV.undef :: VV.undef :: VV.undef :: VV.undef :: VV.undef :: VV.undef :: VV.undef :: VV.undef :: VV.undef :: VV.undef :: VV.undef :: VV.undef :: VV.undef :: VV.undef :: VV.undef :: VV.undef :: VV.undef :: VV.undef :: VV.undef :: VV.undef :: VV.undef :: VV.undef :: VV.undef :: VV.undef :: VV.undef :: VV.undef :: VV.undef :: VV.undef :: VV.undef :: VV.undef :: VV.undef :: VV.undef :: VV.undef :: VV.undef :: VV.undef :: VV.undef :: VV.undef :: VV.undef :: VV.undef :: VV.undef :: VV.undef :: VV.undef :: VV.undef :: VV.undef :: VV.undef :: VV.undef :: VV.undef :: (.list .s (w.sp.map fI) : VV) :: (.int .i64 ((w.sp.length : Nat) : Int) : VV) :: (.int .i64 ((i : Nat) : Int) : VV) :: VV.undef :: VV.undef :: VV.undef :: VV.undef :: VV.undef :: VV.undef :: VV.undef :: VV.undef :: VV.undef :: VV.undef :: VV.undef :: VV.undef :: VV.undef :: VV.undef :: VV.undef :: VV.undef :: VV.undef :: VV.undef :: VV.undef :: VV.undef :: VV.undef :: VV.undef :: VV.undef :: VV.undef :: VV.undef :: VV.undef :: VV.undef :: VV.undef :: VV.undef :: VV.undef :: VV.undef :: VV.undef :: VV.undef :: VV.undef :: VV.undef :: [])) w.sp.length ?_ ?_ (Nat.zero_le _) ⟨rfl, fun j x hj => absurd hj (Nat.not_lt_zero j), by simp -implicitDefEqProofs only [go_sem, ↓reduceIte, reduceCtorEq, Int.reduceLT, Int.reduceLE, Int.reduceToNat, Nat.reduceAdd, Nat.reduceMul, Nat.reduceLeDiff, Nat.reduceLT, Nat.reduceSub, Int.reduceNeg, Int.reduceEq, Int.reduceBEq, Int.reduceBNe, Nat.reduceEqDiff, fW]⟩
    · rintro i env h' hi ⟨rfl, hA, rfl⟩
      obtain ⟨x, hx⟩ := get_some hi
      have hi' : (i : Int) < (w.sp.length : Int) := by omega
      have hw := wrap_succ (i := i) (by omega)
      have hg := get_map (F := fI) hx
      simp only [fI] at hg
      have htk := take_fI w.sp i
      have hlt : (w.sp.take i).length ≤ 100000 := by rw [List.length_take]; omega
      have hC := Contains_i (w.sp.take i) x hlt
      have hile : i ≤ w.sp.length := by omega
      have hal := all_len (F := fI) (es := 1) (fun _ => rfl) w.sp
      by_cases a1 : x < -1
      · simp -implicitDefEqProofs only [act_Check_b0, act_Check_b1, go_sem, ↓reduceIte, reduceCtorEq, Int.reduceLT, Int.reduceLE, Int.reduceToNat, Nat.reduceAdd, Nat.reduceMul, Nat.reduceLeDiff, Nat.reduceLT, Nat.reduceSub, Int.reduceNeg, Int.reduceEq, Int.reduceBEq, Int.reduceBNe, Nat.reduceEqDiff, fW, hi', hg, a1]
        exact hP1 1 (by decide) fun h => by have := (h.s1 i x hx).1; omega
      by_cases a2 : w.sl ≤ x ∧ x < 8
      · obtain ⟨b1, b2⟩ := a2
        simp -implicitDefEqProofs only [act_Check_b0, act_Check_b1, go_sem, ↓reduceIte, reduceCtorEq, Int.reduceLT, Int.reduceLE, Int.reduceToNat, Nat.reduceAdd, Nat.reduceMul, Nat.reduceLeDiff, Nat.reduceLT, Nat.reduceSub, Int.reduceNeg, Int.reduceEq, Int.reduceBEq, Int.reduceBNe, Nat.reduceEqDiff, fW, hi', hg, a1, b1, b2]
        exact hP1 1 (by decide) fun h => by have := (h.s1 i x hx).2.1; omega
      have a2' : decide (w.sl ≤ x) = false ∨ (decide (w.sl ≤ x) = true ∧ decide (x < 8) = false) := by
        by_cases b1 : w.sl ≤ x
        · exact .inr ⟨decide_eq_true b1, decide_eq_false fun b2 => a2 ⟨b1, b2⟩⟩
        · exact .inl (decide_eq_false b1)
      have next : (x < 8 + (w.pl.length : Int)) → (x = -1 ∨ x ∉ w.sp.take i) → ∀ j y, j < i + 1 → w.sp[j]? = some y → okS w j y := by
        intro b1 b2 j y hj hy
        rcases Nat.lt_succ_iff_lt_or_eq.1 hj with hj | rfl
        · exact hA j y hj hy
        · rw [hx] at hy; cases hy; exact ⟨by omega, a2, b1, b2⟩
      rcases a2' with b1 | ⟨b1, b2⟩
      · have b1' := of_decide_eq_false b1
        by_cases c1 : 8 + (w.pl.length : Int) ≤ x
        · simp -implicitDefEqProofs only [act_Check_b0, act_Check_b1, go_sem, ↓reduceIte, reduceCtorEq, Int.reduceLT, Int.reduceLE, Int.reduceToNat, Nat.reduceAdd, Nat.reduceMul, Nat.reduceLeDiff, Nat.reduceLT, Nat.reduceSub, Int.reduceNeg, Int.reduceEq, Int.reduceBEq, Int.reduceBNe, Nat.reduceEqDiff, fW, hi', hg, a1, b1', hl8, c1]
          exact hP1 1 (by decide) fun h => by have := (h.s1 i x hx).2.2.1; omega
        by_cases a3 : x = -1
        · subst a3
          simp -implicitDefEqProofs only [act_Check_b0, act_Check_b1, go_sem, ↓reduceIte, reduceCtorEq, Int.reduceLT, Int.reduceLE, Int.reduceToNat, Nat.reduceAdd, Nat.reduceMul, Nat.reduceLeDiff, Nat.reduceLT, Nat.reduceSub, Int.reduceNeg, Int.reduceEq, Int.reduceBEq, Int.reduceBNe, Nat.reduceEqDiff, fW, hi', hg, a1, b1', hl8, c1, hw]
          exact next (by omega) (.inl rfl)
        by_cases a4 : x ∈ w.sp.take i
        · simp -implicitDefEqProofs only [act_Check_b0, act_Check_b1, go_sem, ↓reduceIte, reduceCtorEq, Int.reduceLT, Int.reduceLE, Int.reduceToNat, Nat.reduceAdd, Nat.reduceMul, Nat.reduceLeDiff, Nat.reduceLT, Nat.reduceSub, Int.reduceNeg, Int.reduceEq, Int.reduceBEq, Int.reduceBNe, Nat.reduceEqDiff, fW, hi', hg, a1, b1', hl8, c1, a3, hal, hile, htk, hC, a4]
          exact hP1 10 (by decide) fun h => by rcases (h.s1 i x hx).2.2.2 with h | h <;> first | exact a3 h | exact h a4
        · simp -implicitDefEqProofs only [act_Check_b0, act_Check_b1, go_sem, ↓reduceIte, reduceCtorEq, Int.reduceLT, Int.reduceLE, Int.reduceToNat, Nat.reduceAdd, Nat.reduceMul, Nat.reduceLeDiff, Nat.reduceLT, Nat.reduceSub, Int.reduceNeg, Int.reduceEq, Int.reduceBEq, Int.reduceBNe, Nat.reduceEqDiff, fW, hi', hg, a1, b1', hl8, c1, a3, hal, hile, htk, hC, a4, hw]
          exact next (by omega) (.inr a4)
      · have b1' := of_decide_eq_true b1
        have b2' := of_decide_eq_false b2
        have a3 : ¬ x = -1 := by omega
        by_cases c1 : 8 + (w.pl.length : Int) ≤ x
        · simp -implicitDefEqProofs only [act_Check_b0, act_Check_b1, go_sem, ↓reduceIte, reduceCtorEq, Int.reduceLT, Int.reduceLE, Int.reduceToNat, Nat.reduceAdd, Nat.reduceMul, Nat.reduceLeDiff, Nat.reduceLT, Nat.reduceSub, Int.reduceNeg, Int.reduceEq, Int.reduceBEq, Int.reduceBNe, Nat.reduceEqDiff, fW, hi', hg, a1, b1', b2', hl8, c1]
          exact hP1 1 (by decide) fun h => by have := (h.s1 i x hx).2.2.1; omega
        by_cases a4 : x ∈ w.sp.take i
        · simp -implicitDefEqProofs only [act_Check_b0, act_Check_b1, go_sem, ↓reduceIte, reduceCtorEq, Int.reduceLT, Int.reduceLE, Int.reduceToNat, Nat.reduceAdd, Nat.reduceMul, Nat.reduceLeDiff, Nat.reduceLT, Nat.reduceSub, Int.reduceNeg, Int.reduceEq, Int.reduceBEq, Int.reduceBNe, Nat.reduceEqDiff, fW, hi', hg, a1, b1', b2', hl8, c1, a3, hal, hile, htk, hC, a4]
          exact hP1 10 (by decide) fun h => by rcases (h.s1 i x hx).2.2.2 with h | h <;> first | exact a3 h | exact h a4
        · simp -implicitDefEqProofs only [act_Check_b0, act_Check_b1, go_sem, ↓reduceIte, reduceCtorEq, Int.reduceLT, Int.reduceLE, Int.reduceToNat, Nat.reduceAdd, Nat.reduceMul, Nat.reduceLeDiff, Nat.reduceLT, Nat.reduceSub, Int.reduceNeg, Int.reduceEq, Int.reduceBEq, Int.reduceBNe, Nat.reduceEqDiff, fW, hi', hg, a1, b1', b2', hl8, c1, a3, hal, hile, htk, hC, a4, hw]
          exact next (by omega) (.inr a4)
    · rintro env h' ⟨rfl, hB, rfl⟩
      simp -implicitDefEqProofs only [act_Check_b0, act_Check_b1, go_sem, ↓reduceIte, reduceCtorEq, Int.reduceLT, Int.reduceLE, Int.reduceToNat, Nat.reduceAdd, Nat.reduceMul, Nat.reduceLeDiff, Nat.reduceLT, Nat.reduceSub, Int.reduceNeg, Int.reduceEq, Int.reduceBEq, Int.reduceBNe, Nat.reduceEqDiff, Int.lt_irrefl]
      exact hP0 ⟨hsm, hA', fun i x hx => hB i x (lt_of_getElem? hx) hx⟩
end Vg.G3
