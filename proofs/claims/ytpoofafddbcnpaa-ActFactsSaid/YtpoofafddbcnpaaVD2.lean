import Derived.Test.YtpoofafddbcnpaaVG3
namespace Vg.G3
open Go Lg
set_option linter.unusedSimpArgs false
set_option maxRecDepth 10000
set_option maxHeartbeats 2000000
attribute [local congr] bind_congr1
attribute [local go_sem] fact_Valid_r0 fact_Valid_r1 fact_Valid_r2 fact_Valid_r3 fact_Valid_r4 fact_Valid_r5 fact_Valid_r6 fact_Valid_r7 fact_Valid_r8 fact_Valid_r9 fact_Valid_r10 fact_Valid_r11 fact_Valid_r12 fact_Valid_r13 fact_Valid_r14 fact_Valid_r15 fact_Valid_f fact_Valid_v

structure Fa where
  k : Int
  a : Int
  b : Int
  deriving DecidableEq
def fF (f : Fa) : List VV := [.int .i64 f.k, .int .i64 f.a, .int .i64 f.b]
theorem fF_len (f : Fa) : (fF f).length = 3 := rfl
def lim (k : Int) : Int × Int := if k = 1 then (6, 8) else if k = 2 then (4, 6) else if k = 3 then (4, 1) else if k = 4 then (8, 1) else if k = 5 then (6, 1) else if k = 6 then (4, 14) else (0, 1)
def validF (f : Fa) : Bool := decide (0 ≤ f.a) && (decide (f.a < (lim f.k).1) && (decide (0 ≤ f.b) && decide (f.b < (lim f.k).2)))
theorem Valid_spec (f : Fa) (lo : Nat) (h : VHeap) : callVL vp lo n_fact_Valid [.agg (fF f)] h = some (.bool (validF f), h) := by
  obtain ⟨k, a, b⟩ := f
  refine call_valE (fn := fact_Valid_v) rfl rfl rfl rfl rfl ?_ lo h
  unfold validF
  simp only
  have hl : lim k = if k = 1 then (6, 8) else if k = 2 then (4, 6) else if k = 3 then (4, 1) else if k = 4 then (8, 1) else if k = 5 then (6, 1) else if k = 6 then (4, 14) else (0, 1) := rfl
  by_cases k1 : k = 1
  · subst k1
    simp only [if_true] at hl
    by_cases h1 : 0 ≤ a <;> by_cases h2 : a < 6 <;> by_cases h3 : 0 ≤ b <;> by_cases h4 : b < 8 <;> simp -implicitDefEqProofs only [go_sem, ↓reduceIte, reduceCtorEq, Int.reduceLT, Int.reduceLE, Int.reduceToNat, Nat.reduceAdd, Nat.reduceMul, Nat.reduceLeDiff, Nat.reduceLT, Nat.reduceSub, Int.reduceNeg, Int.reduceEq, Int.reduceBEq, Int.reduceBNe, Nat.reduceEqDiff, fF, hl, h1, h2, h3, h4]
  by_cases k2 : k = 2
  · subst k2
    simp only [k1, if_true, if_false] at hl
    by_cases h1 : 0 ≤ a <;> by_cases h2 : a < 4 <;> by_cases h3 : 0 ≤ b <;> by_cases h4 : b < 6 <;> simp -implicitDefEqProofs only [go_sem, ↓reduceIte, reduceCtorEq, Int.reduceLT, Int.reduceLE, Int.reduceToNat, Nat.reduceAdd, Nat.reduceMul, Nat.reduceLeDiff, Nat.reduceLT, Nat.reduceSub, Int.reduceNeg, Int.reduceEq, Int.reduceBEq, Int.reduceBNe, Nat.reduceEqDiff, fF, hl, h1, h2, h3, h4]
  by_cases k3 : k = 3
  · subst k3
    simp only [k1, k2, if_true, if_false] at hl
    by_cases h1 : 0 ≤ a <;> by_cases h2 : a < 4 <;> by_cases h3 : 0 ≤ b <;> by_cases h4 : b < 1 <;> simp -implicitDefEqProofs only [go_sem, ↓reduceIte, reduceCtorEq, Int.reduceLT, Int.reduceLE, Int.reduceToNat, Nat.reduceAdd, Nat.reduceMul, Nat.reduceLeDiff, Nat.reduceLT, Nat.reduceSub, Int.reduceNeg, Int.reduceEq, Int.reduceBEq, Int.reduceBNe, Nat.reduceEqDiff, fF, hl, h1, h2, h3, h4]
  by_cases k4 : k = 4
  · subst k4
    simp only [k1, k2, k3, if_true, if_false] at hl
    by_cases h1 : 0 ≤ a <;> by_cases h2 : a < 8 <;> by_cases h3 : 0 ≤ b <;> by_cases h4 : b < 1 <;> simp -implicitDefEqProofs only [go_sem, ↓reduceIte, reduceCtorEq, Int.reduceLT, Int.reduceLE, Int.reduceToNat, Nat.reduceAdd, Nat.reduceMul, Nat.reduceLeDiff, Nat.reduceLT, Nat.reduceSub, Int.reduceNeg, Int.reduceEq, Int.reduceBEq, Int.reduceBNe, Nat.reduceEqDiff, fF, hl, h1, h2, h3, h4]
  by_cases k5 : k = 5
  · subst k5
    simp only [k1, k2, k3, k4, if_true, if_false] at hl
    by_cases h1 : 0 ≤ a <;> by_cases h2 : a < 6 <;> by_cases h3 : 0 ≤ b <;> by_cases h4 : b < 1 <;> simp -implicitDefEqProofs only [go_sem, ↓reduceIte, reduceCtorEq, Int.reduceLT, Int.reduceLE, Int.reduceToNat, Nat.reduceAdd, Nat.reduceMul, Nat.reduceLeDiff, Nat.reduceLT, Nat.reduceSub, Int.reduceNeg, Int.reduceEq, Int.reduceBEq, Int.reduceBNe, Nat.reduceEqDiff, fF, hl, h1, h2, h3, h4]
  by_cases k6 : k = 6
  · subst k6
    simp only [k1, k2, k3, k4, k5, if_true, if_false] at hl
    by_cases h1 : 0 ≤ a <;> by_cases h2 : a < 4 <;> by_cases h3 : 0 ≤ b <;> by_cases h4 : b < 14 <;> simp -implicitDefEqProofs only [go_sem, ↓reduceIte, reduceCtorEq, Int.reduceLT, Int.reduceLE, Int.reduceToNat, Nat.reduceAdd, Nat.reduceMul, Nat.reduceLeDiff, Nat.reduceLT, Nat.reduceSub, Int.reduceNeg, Int.reduceEq, Int.reduceBEq, Int.reduceBNe, Nat.reduceEqDiff, fF, hl, h1, h2, h3, h4]
  simp only [k1, k2, k3, k4, k5, k6, if_false] at hl
  by_cases h1 : 0 ≤ a <;> by_cases h2 : a < 0 <;> by_cases h3 : 0 ≤ b <;> by_cases h4 : b < 1 <;> simp -implicitDefEqProofs only [go_sem, ↓reduceIte, reduceCtorEq, Int.reduceLT, Int.reduceLE, Int.reduceToNat, Nat.reduceAdd, Nat.reduceMul, Nat.reduceLeDiff, Nat.reduceLT, Nat.reduceSub, Int.reduceNeg, Int.reduceEq, Int.reduceBEq, Int.reduceBNe, Nat.reduceEqDiff, fF, hl, k1, k2, k3, k4, k5, k6, h1, h2, h3, h4]
theorem eq3 (f g : Fa) : eqL [.i, .i, .i] [.int .i64 f.k, .int .i64 f.a, .int .i64 f.b] [.int .i64 g.k, .int .i64 g.a, .int .i64 g.b] = some (decide (f = g)) := by
  obtain ⟨k, a, b⟩ := f
  obtain ⟨k', a', b'⟩ := g
  simp only [eqL, if_true, int_beq]
  by_cases h1 : k = k' <;> by_cases h2 : a = a' <;> by_cases h3 : b = b' <;> simp [h1, h2, h3]
end Vg.G3
namespace Vg.G3
open Go Lg
set_option linter.unusedSimpArgs false
set_option maxRecDepth 10000
set_option maxHeartbeats 2000000
attribute [local congr] bind_congr1
attribute [local go_sem] slices_Index_gantryfactFact_r0 slices_Index_gantryfactFact_r1 slices_Index_gantryfactFact_r2 slices_Index_gantryfactFact_r3 slices_Index_gantryfactFact_r4 slices_Index_gantryfactFact_r4_d slices_Index_gantryfactFact_r5 slices_Index_gantryfactFact_r6 slices_Index_gantryfactFact_r7 slices_Index_gantryfactFact_f slices_Index_gantryfactFact_v slices_Contains_gantryfactFact_r0 slices_Contains_gantryfactFact_r1 slices_Contains_gantryfactFact_f slices_Contains_gantryfactFact_v fact_Has_r0 fact_Has_r1 fact_Has_f fact_Has_v

theorem Index_spec (l : List Fa) (f : Fa) (hl : l.length ≤ 100000) (lo : Nat) (h : VHeap) : ∃ n : Int, (0 ≤ n ↔ f ∈ l) ∧ callVL vp lo n_slices_Index_gantryfactFact [.list .s (l.map fF), .agg (fF f)] h = some (.int .i64 n, h) := by
  obtain ⟨P, hP⟩ : ∃ P : VV → Prop, P = fun w : VV => ∃ n : Int, (0 ≤ n ↔ f ∈ l) ∧ w = .int .i64 n := ⟨_, rfl⟩
  have key := call_val (p := vp) (f := n_slices_Index_gantryfactFact) (fn := slices_Index_gantryfactFact_v) (args := [.list .s (l.map fF), .agg (fF f)]) (P := P) rfl rfl rfl rfl rfl ?_
  · obtain ⟨v, hv, hc⟩ := key; subst hP; obtain ⟨n, hn, rfl⟩ := hv; exact ⟨n, hn, hc lo h⟩
  have hP1 : ∀ n : Int, (0 ≤ n ↔ f ∈ l) → P (.int .i64 n) := fun n hn => by subst hP; exact ⟨n, hn, rfl⟩
  clear hP
  simp -implicitDefEqProofs only [go_sem, ↓reduceIte, reduceCtorEq, Int.reduceLT, Int.reduceLE, Int.reduceToNat, Nat.reduceAdd, Nat.reduceMul, Nat.reduceLeDiff, Nat.reduceLT, Nat.reduceSub, Int.reduceNeg, Int.reduceEq, Int.reduceBEq, Int.reduceBNe, Nat.reduceEqDiff, fF]
  rw [Sat_bind]
  refine loop_up (I := fun i env h' => h' = [.cells true [.int .i64 f.k, .int .i64 f.a, .int .i64 f.b]] ∧ (∀ j g, j < i → l[j]? = some g → g ≠ f) ∧ env = [.list .s (l.map fF), .undef, .undef, .ptr 0 0, .undef, .undef, .undef, .int .i64 ((l.length : Nat) : Int), .int .i64 ((i : Nat) : Int), .undef, .undef, .undef, .undef, .undef, .undef, .undef, .undef, .undef, .undef]) l.length ?_ ?_ (Nat.zero_le _) ⟨rfl, fun j g hj => absurd hj (Nat.not_lt_zero j), by simp -implicitDefEqProofs only [go_sem, ↓reduceIte, reduceCtorEq, Int.reduceLT, Int.reduceLE, Int.reduceToNat, Nat.reduceAdd, Nat.reduceMul, Nat.reduceLeDiff, Nat.reduceLT, Nat.reduceSub, Int.reduceNeg, Int.reduceEq, Int.reduceBEq, Int.reduceBNe, Nat.reduceEqDiff]⟩
  · rintro i env h' hi ⟨rfl, hA, rfl⟩
    obtain ⟨x, hx⟩ := get_some hi
    have hi' : (i : Int) < (l.length : Int) := by omega
    have hw := wrap_succ (i := i) (by omega)
    have hg := get_map (F := fF) hx
    simp only [fF] at hg
    have next : x ≠ f → ∀ j g, j < i + 1 → l[j]? = some g → g ≠ f := fun hne j g hj hjg => by
      rcases Nat.lt_succ_iff_lt_or_eq.1 hj with hj | rfl
      · exact hA j g hj hjg
      · rw [hx] at hjg; cases hjg; exact hne
    by_cases e1 : f.k = x.k
    · by_cases e2 : f.a = x.a
      · by_cases e3 : f.b = x.b
        · simp -implicitDefEqProofs only [slices_Index_gantryfactFact_b0, go_sem, ↓reduceIte, reduceCtorEq, Int.reduceLT, Int.reduceLE, Int.reduceToNat, Nat.reduceAdd, Nat.reduceMul, Nat.reduceLeDiff, Nat.reduceLT, Nat.reduceSub, Int.reduceNeg, Int.reduceEq, Int.reduceBEq, Int.reduceBNe, Nat.reduceEqDiff, hi', hg, hw, e1, e2, e3]
          have hfx : x = f := by cases x; cases f; simp at e1 e2 e3; simp [e1, e2, e3]
          exact hP1 i ⟨fun _ => hfx ▸ List.mem_of_getElem? hx, fun _ => by omega⟩
        · simp -implicitDefEqProofs only [slices_Index_gantryfactFact_b0, go_sem, ↓reduceIte, reduceCtorEq, Int.reduceLT, Int.reduceLE, Int.reduceToNat, Nat.reduceAdd, Nat.reduceMul, Nat.reduceLeDiff, Nat.reduceLT, Nat.reduceSub, Int.reduceNeg, Int.reduceEq, Int.reduceBEq, Int.reduceBNe, Nat.reduceEqDiff, hi', hg, hw, e1, e2, e3]
          exact next fun h => e3 (by rw [h])
      · simp -implicitDefEqProofs only [slices_Index_gantryfactFact_b0, go_sem, ↓reduceIte, reduceCtorEq, Int.reduceLT, Int.reduceLE, Int.reduceToNat, Nat.reduceAdd, Nat.reduceMul, Nat.reduceLeDiff, Nat.reduceLT, Nat.reduceSub, Int.reduceNeg, Int.reduceEq, Int.reduceBEq, Int.reduceBNe, Nat.reduceEqDiff, hi', hg, hw, e1, e2]
        exact next fun h => e2 (by rw [h])
    · simp -implicitDefEqProofs only [slices_Index_gantryfactFact_b0, go_sem, ↓reduceIte, reduceCtorEq, Int.reduceLT, Int.reduceLE, Int.reduceToNat, Nat.reduceAdd, Nat.reduceMul, Nat.reduceLeDiff, Nat.reduceLT, Nat.reduceSub, Int.reduceNeg, Int.reduceEq, Int.reduceBEq, Int.reduceBNe, Nat.reduceEqDiff, hi', hg, hw, e1]
      exact next fun h => e1 (by rw [h])
  · rintro env h' ⟨rfl, hA, rfl⟩
    simp -implicitDefEqProofs only [slices_Index_gantryfactFact_b0, go_sem, ↓reduceIte, reduceCtorEq, Int.reduceLT, Int.reduceLE, Int.reduceToNat, Nat.reduceAdd, Nat.reduceMul, Nat.reduceLeDiff, Nat.reduceLT, Nat.reduceSub, Int.reduceNeg, Int.reduceEq, Int.reduceBEq, Int.reduceBNe, Nat.reduceEqDiff, Int.lt_irrefl]
    refine hP1 (-1) ⟨fun h => absurd h (by decide), fun h => ?_⟩
    obtain ⟨j, hj⟩ := List.mem_iff_getElem?.1 h
    exact absurd rfl (hA j f (lt_of_getElem? hj) hj)
theorem Contains_spec (l : List Fa) (f : Fa) (hl : l.length ≤ 100000) (lo : Nat) (h : VHeap) : callVL vp lo n_slices_Contains_gantryfactFact [.list .s (l.map fF), .agg (fF f)] h = some (.bool (decide (f ∈ l)), h) := by
  refine call_valE (fn := slices_Contains_gantryfactFact_v) rfl rfl rfl rfl rfl ?_ lo h
  obtain ⟨n, hn, hI⟩ := Index_spec l f hl 0 [.cells true (fF f)]
  simp only [fF] at hI
  by_cases h0 : 0 ≤ n
  · simp -implicitDefEqProofs only [go_sem, ↓reduceIte, reduceCtorEq, Int.reduceLT, Int.reduceLE, Int.reduceToNat, Nat.reduceAdd, Nat.reduceMul, Nat.reduceLeDiff, Nat.reduceLT, Nat.reduceSub, Int.reduceNeg, Int.reduceEq, Int.reduceBEq, Int.reduceBNe, Nat.reduceEqDiff, fF, hI, h0, hn.1 h0]
  · have : ¬ f ∈ l := fun h => h0 (hn.2 h)
    simp -implicitDefEqProofs only [go_sem, ↓reduceIte, reduceCtorEq, Int.reduceLT, Int.reduceLE, Int.reduceToNat, Nat.reduceAdd, Nat.reduceMul, Nat.reduceLeDiff, Nat.reduceLT, Nat.reduceSub, Int.reduceNeg, Int.reduceEq, Int.reduceBEq, Int.reduceBNe, Nat.reduceEqDiff, fF, hI, h0, this]
theorem Has_spec (l : List Fa) (f : Fa) (hl : l.length ≤ 100000) (lo : Nat) (h : VHeap) : callVL vp lo n_fact_Has [.list .s (l.map fF), .agg (fF f)] h = some (.bool (decide (f ∈ l)), h) := by
  refine call_valE (fn := fact_Has_v) rfl rfl rfl rfl rfl ?_ lo h
  have hI := Contains_spec l f hl
  simp only [fF] at hI
  simp -implicitDefEqProofs only [go_sem, ↓reduceIte, reduceCtorEq, Int.reduceLT, Int.reduceLE, Int.reduceToNat, Nat.reduceAdd, Nat.reduceMul, Nat.reduceLeDiff, Nat.reduceLT, Nat.reduceSub, Int.reduceNeg, Int.reduceEq, Int.reduceBEq, Int.reduceBNe, Nat.reduceEqDiff, fF, hI]

/-- Two facts clash; the first kind is not the greater one. -/
def core (f g : Fa) : Bool :=
  if (f.k = 1 ∧ g.k = 1) ∨ (f.k = 2 ∧ g.k = 2) ∨ (f.k = 6 ∧ g.k = 6) then decide (f.a = g.a) || decide (f.b = g.b)
  else if f.k = 1 ∧ g.k = 2 then decide (f.a = g.b)
  else if f.k = 1 ∧ g.k = 4 then decide (f.b = g.a)
  else if f.k = 2 ∧ g.k = 3 then decide (f.a = g.a)
  else false
def clashF (f g : Fa) : Bool := if validF f = true ∧ validF g = true ∧ f ≠ g then (if g.k < f.k then core g f else core f g) else false
theorem core_symm {f g : Fa} (h : f.k = g.k) : core f g = core g f := by
  unfold core
  rw [h]
  have e1 : decide (f.a = g.a) = decide (g.a = f.a) := by by_cases h : f.a = g.a <;> simp [h, eq_comm]
  have e2 : decide (f.b = g.b) = decide (g.b = f.b) := by by_cases h : f.b = g.b <;> simp [h, eq_comm]
  rw [e1, e2]
  split
  · rfl
  · split
    · omega
    · split
      · omega
      · split
        · omega
        · rfl
theorem clash_symm (f g : Fa) : clashF f g = clashF g f := by
  unfold clashF
  by_cases h : validF f = true ∧ validF g = true ∧ f ≠ g
  · have h' : validF g = true ∧ validF f = true ∧ g ≠ f := ⟨h.2.1, h.1, fun e => h.2.2 e.symm⟩
    rw [if_pos h, if_pos (c := validF g = true ∧ validF f = true ∧ g ≠ f) h']
    rcases Int.lt_trichotomy f.k g.k with h1 | h1 | h1
    · rw [if_neg (by omega), if_pos h1]
    · rw [if_neg (by omega), if_neg (by omega)]; exact core_symm h1
    · rw [if_pos h1, if_neg (by omega)]
  · rw [if_neg h, if_neg fun h' => h ⟨h'.2.1, h'.1, fun e => h'.2.2 e.symm⟩]
theorem clash_self (f : Fa) : clashF f f = false := by unfold clashF; rw [if_neg fun h => h.2.2 rfl]
end Vg.G3
