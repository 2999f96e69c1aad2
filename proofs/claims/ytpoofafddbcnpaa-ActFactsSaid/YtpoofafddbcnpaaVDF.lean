import Derived.Test.YtpoofafddbcnpaaVDD
namespace Vg.G3
open Go Lg
set_option linter.unusedSimpArgs false
set_option linter.unusedVariables false
set_option maxRecDepth 10000
set_option maxHeartbeats 1000000
attribute [local congr] bind_congr1
attribute [local go_sem] fact_IsSet_r0 fact_IsSet_r1 fact_IsSet_r2 fact_IsSet_r3 fact_IsSet_r4 fact_IsSet_r4_d fact_IsSet_r5 fact_IsSet_r6 fact_IsSet_r7 fact_IsSet_f fact_IsSet_v fact_Within_1_r0 fact_Within_1_r1 fact_Within_1_f fact_Within_1_v slices_IndexFunc_gantryfactFact_r0 slices_IndexFunc_gantryfactFact_r1 slices_IndexFunc_gantryfactFact_r2 slices_IndexFunc_gantryfactFact_r3 slices_IndexFunc_gantryfactFact_r4 slices_IndexFunc_gantryfactFact_r5 slices_IndexFunc_gantryfactFact_r6 slices_IndexFunc_gantryfactFact_r7 slices_IndexFunc_gantryfactFact_f slices_IndexFunc_gantryfactFact_v slices_ContainsFunc_gantryfactFact_r0 slices_ContainsFunc_gantryfactFact_r1 slices_ContainsFunc_gantryfactFact_f slices_ContainsFunc_gantryfactFact_v fact_Within_r0 fact_Within_r1 fact_Within_f fact_Within_v fact_Apply_r0 fact_Apply_r1 fact_Apply_f fact_Apply_v gantkeep4_FactLaws_1_r0 gantkeep4_FactLaws_1_r1 gantkeep4_FactLaws_1_f gantkeep4_FactLaws_1_v

/-- A set: valid facts, in order, each once. -/
def setF (A : List Fa) : Prop := (∀ f ∈ A, validF f = true) ∧ ∀ (i : Nat) (f g : Fa), A[i]? = some f → A[i + 1]? = some g → cmpI (toI f) (toI g) < 0
theorem IsSet_spec {A : List Fa} (hA : A.length ≤ 1000) (hS : setF A) (lo : Nat) (h : VHeap) : callVL vp lo n_fact_IsSet [.list .s (A.map fF)] h = some (.bool true, h) := by
  refine call_valE (fn := fact_IsSet_v) rfl rfl rfl rfl rfl ?_ lo h
  obtain ⟨P, hP⟩ : ∃ P : VV → Prop, P = fun w : VV => w = .bool true := ⟨_, rfl⟩
  have hP1 : P (.bool true) := by subst hP; rfl
  have hP2 : (fun r : VV × VHeap => r.1 = .bool true) = fun r => P r.1 := by subst hP; rfl
  rw [hP2]
  clear hP hP2
  simp -implicitDefEqProofs only [go_sem, ↓reduceIte, reduceCtorEq, Int.reduceLT, Int.reduceLE, Int.reduceToNat, Nat.reduceAdd, Nat.reduceMul, Nat.reduceLeDiff, Nat.reduceLT, Nat.reduceSub, Int.reduceNeg, Int.reduceEq, Int.reduceBEq, Int.reduceBNe, Nat.reduceEqDiff]
  rw [Sat_bind]
  refine loop_up (I := fun i env h' => h' = [] ∧ env = [.list .s (A.map fF), .undef, .undef, .undef, .undef, .list .s (A.map fF), .int .i64 ((A.length : Nat) : Int), .int .i64 ((i : Nat) : Int), .undef, .undef, .undef, .undef, .undef, .undef, .undef, .undef, .undef, .undef, .undef, .undef, .undef, .undef, .undef, .undef, .undef, .undef, .undef, .undef, .undef, .undef]) A.length ?_ ?_ (Nat.zero_le _) ⟨rfl, by simp -implicitDefEqProofs only [go_sem, ↓reduceIte, reduceCtorEq, Int.reduceLT, Int.reduceLE, Int.reduceToNat, Nat.reduceAdd, Nat.reduceMul, Nat.reduceLeDiff, Nat.reduceLT, Nat.reduceSub, Int.reduceNeg, Int.reduceEq, Int.reduceBEq, Int.reduceBNe, Nat.reduceEqDiff]⟩
  · rintro i env h' hi ⟨rfl, rfl⟩
    obtain ⟨f, hf⟩ := get_some hi
    have hfg := get_map (F := fF) hf
    have hV := Valid_spec f
    rw [hS.1 f (List.mem_of_getElem? hf)] at hV
    simp only [fF] at hfg hV
    have hi' : (i : Int) < (A.length : Int) := by omega
    have hw := wrap_succ (i := i) (by omega)
    cases i with
    | zero =>
      have hi0 : (0 : Int) < (A.length : Int) := hi'
      have hw0 : IntKind.i64.wrap (0 + 1) = 1 := by decide
      simp -implicitDefEqProofs only [fact_IsSet_b0, go_sem, ↓reduceIte, reduceCtorEq, Int.reduceLT, Int.reduceLE, Int.reduceToNat, Nat.reduceAdd, Nat.reduceMul, Nat.reduceLeDiff, Nat.reduceLT, Nat.reduceSub, Int.reduceNeg, Int.reduceEq, Int.reduceBEq, Int.reduceBNe, Nat.reduceEqDiff, hi0, hfg, hV, hw0, Int.lt_irrefl]
    | succ i =>
      obtain ⟨g, hg⟩ := get_some (xs := A) (i := i) (by omega)
      have hgg := get_map (F := fF) hg
      have hC := Compare_spec g f
      have hlt := hS.2 i g f hg hf
      have h0 : (0 : Int) < ((i + 1 : Nat) : Int) := by omega
      have hge : ¬ (0 : Int) ≤ cmpI (toI g) (toI f) := by omega
      have hwm : IntKind.i64.wrap (((i + 1 : Nat) : Int) - 1) = ((i : Nat) : Int) := by rw [wrap_id (by omega) (by omega)]; omega
      simp only [fF] at hgg hC
      simp -implicitDefEqProofs only [fact_IsSet_b0, go_sem, ↓reduceIte, reduceCtorEq, Int.reduceLT, Int.reduceLE, Int.reduceToNat, Nat.reduceAdd, Nat.reduceMul, Nat.reduceLeDiff, Nat.reduceLT, Nat.reduceSub, Int.reduceNeg, Int.reduceEq, Int.reduceBEq, Int.reduceBNe, Nat.reduceEqDiff, hi', hfg, hgg, hV, hw, h0, hwm, hC, hge]
  · rintro env h' ⟨rfl, rfl⟩
    simp -implicitDefEqProofs only [fact_IsSet_b0, go_sem, ↓reduceIte, reduceCtorEq, Int.reduceLT, Int.reduceLE, Int.reduceToNat, Nat.reduceAdd, Nat.reduceMul, Nat.reduceLeDiff, Nat.reduceLT, Nat.reduceSub, Int.reduceNeg, Int.reduceEq, Int.reduceBEq, Int.reduceBNe, Nat.reduceEqDiff, Int.lt_irrefl]
    exact hP1
theorem Within1_spec {b : List Fa} {f : Fa} {n : Nat} {h : VHeap} (hb : b.length ≤ 1000) (hn : h[n]? = some (.cells true [.list .s (b.map fF)])) (lo : Nat) : callVL vp lo n_fact_Within_1 [.agg (fF f), .ptr n 0] h = some (.bool (!decide (f ∈ b)), h) := by
  refine call_read (fn := fact_Within_1_v) («as» := [.agg (fF f), .ptr n 0]) rfl rfl rfl rfl rfl rfl (.inl rfl) ?_
  have hH := Has_spec b f (by omega)
  have hn' : ∀ a : VBlk, (h ++ [a])[n]? = some (.cells true [.list .s (b.map fF)]) := fun a => by rw [List.getElem?_append_left (lt_of_getElem? hn)]; exact hn
  have hb1 : ∀ (h' : VHeap) (a : VBlk), (h' ++ [a])[h'.length]? = some a := fun h' a => List.getElem?_concat_length
  simp only [fF] at hH
  simp -implicitDefEqProofs only [go_sem, ↓reduceIte, reduceCtorEq, Int.reduceLT, Int.reduceLE, Int.reduceToNat, Nat.reduceAdd, Nat.reduceMul, Nat.reduceLeDiff, Nat.reduceLT, Nat.reduceSub, Int.reduceNeg, Int.reduceEq, Int.reduceBEq, Int.reduceBNe, Nat.reduceEqDiff, fF, hn', hb1, hH]
theorem IndexF_spec {a b : List Fa} {n : Nat} {h : VHeap} (ha : a.length ≤ 1000) (hb : b.length ≤ 1000) (hn : h[n]? = some (.cells true [.list .s (b.map fF)])) (lo : Nat) :
    ∃ m : Int, (0 ≤ m ↔ ∃ f ∈ a, f ∉ b) ∧ callVL vp lo n_slices_IndexFunc_gantryfactFact [.list .s (a.map fF), .func 58 [.ptr n 0]] h = some (.int .i64 m, h) := by
  have key : ∃ v, (∃ m : Int, (0 ≤ m ↔ ∃ f ∈ a, f ∉ b) ∧ v = VV.int .i64 m) ∧ callVL vp lo n_slices_IndexFunc_gantryfactFact [.list .s (a.map fF), .func 58 [.ptr n 0]] h = some (v, h) := by
    obtain ⟨P, hP⟩ : ∃ P : VV → Prop, P = fun w : VV => ∃ n : Int, (0 ≤ n ↔ ∃ f ∈ a, f ∉ b) ∧ w = .int .i64 n := ⟨_, rfl⟩
    have hP1 : ∀ m : Int, (0 ≤ m ↔ ∃ f ∈ a, f ∉ b) → P (.int .i64 m) := fun m hm => by subst hP; exact ⟨m, hm, rfl⟩
    suffices hs : ∃ v, P v ∧ callVL vp lo n_slices_IndexFunc_gantryfactFact [.list .s (a.map fF), .func 58 [.ptr n 0]] h = some (v, h) by subst hP; exact hs
    clear hP
    have hE : Sat ((codeVL (callVL vp) h.length slices_IndexFunc_gantryfactFact_v.fn.body ([.list .s (a.map fF), .func 58 [.ptr n 0]] ++ List.replicate (slices_IndexFunc_gantryfactFact_v.fn.ntmps - slices_IndexFunc_gantryfactFact_v.fn.nargs) (.tup [])) h).bind (endV slices_IndexFunc_gantryfactFact_v h.length)) fun r => P r.1 := by
      simp -implicitDefEqProofs only [go_sem, ↓reduceIte, reduceCtorEq, Int.reduceLT, Int.reduceLE, Int.reduceToNat, Nat.reduceAdd, Nat.reduceMul, Nat.reduceLeDiff, Nat.reduceLT, Nat.reduceSub, Int.reduceNeg, Int.reduceEq, Int.reduceBEq, Int.reduceBNe, Nat.reduceEqDiff]
      rw [Sat_bind]
      refine loop_up (I := fun i env h' => h' = h ∧ (∀ j g, j < i → a[j]? = some g → g ∈ b) ∧ env = [.list .s (a.map fF), .func 58 [.ptr n 0], .undef, .undef, .undef, .undef, .undef, .int .i64 ((a.length : Nat) : Int), .int .i64 ((i : Nat) : Int), .undef, .undef, .undef, .undef, .undef, .undef, .undef, .undef, .undef, .undef]) a.length ?_ ?_ (Nat.zero_le _) ⟨rfl, fun j g hj => absurd hj (Nat.not_lt_zero j), by simp -implicitDefEqProofs only [go_sem, ↓reduceIte, reduceCtorEq, Int.reduceLT, Int.reduceLE, Int.reduceToNat, Nat.reduceAdd, Nat.reduceMul, Nat.reduceLeDiff, Nat.reduceLT, Nat.reduceSub, Int.reduceNeg, Int.reduceEq, Int.reduceBEq, Int.reduceBNe, Nat.reduceEqDiff]⟩
      · rintro i env h' hi ⟨rfl, hA, rfl⟩
        obtain ⟨x, hx⟩ := get_some hi
        have hi' : (i : Int) < (a.length : Int) := by omega
        have hw := wrap_succ (i := i) (by omega)
        have hg := get_map (F := fF) hx
        have hW := Within1_spec (f := x) hb hn
        simp only [fF] at hg hW
        by_cases hm : x ∈ b
        · simp -implicitDefEqProofs only [slices_IndexFunc_gantryfactFact_b0, go_sem, ↓reduceIte, reduceCtorEq, Int.reduceLT, Int.reduceLE, Int.reduceToNat, Nat.reduceAdd, Nat.reduceMul, Nat.reduceLeDiff, Nat.reduceLT, Nat.reduceSub, Int.reduceNeg, Int.reduceEq, Int.reduceBEq, Int.reduceBNe, Nat.reduceEqDiff, hi', hg, hw, hW, hm]
          intro j g hj hjg
          rcases Nat.lt_succ_iff_lt_or_eq.1 hj with hj | rfl
          · exact hA j g hj hjg
          · rw [hx] at hjg; cases hjg; exact hm
        · simp -implicitDefEqProofs only [slices_IndexFunc_gantryfactFact_b0, go_sem, ↓reduceIte, reduceCtorEq, Int.reduceLT, Int.reduceLE, Int.reduceToNat, Nat.reduceAdd, Nat.reduceMul, Nat.reduceLeDiff, Nat.reduceLT, Nat.reduceSub, Int.reduceNeg, Int.reduceEq, Int.reduceBEq, Int.reduceBNe, Nat.reduceEqDiff, hi', hg, hw, hW, hm]
          exact hP1 i ⟨fun _ => ⟨x, List.mem_of_getElem? hx, hm⟩, fun _ => by omega⟩
      · rintro env h' ⟨rfl, hA, rfl⟩
        simp -implicitDefEqProofs only [slices_IndexFunc_gantryfactFact_b0, go_sem, ↓reduceIte, reduceCtorEq, Int.reduceLT, Int.reduceLE, Int.reduceToNat, Nat.reduceAdd, Nat.reduceMul, Nat.reduceLeDiff, Nat.reduceLT, Nat.reduceSub, Int.reduceNeg, Int.reduceEq, Int.reduceBEq, Int.reduceBNe, Nat.reduceEqDiff, Int.lt_irrefl]
        refine hP1 (-1) ⟨fun h => absurd h (by decide), fun ⟨f, hf, hnb⟩ => ?_⟩
        obtain ⟨j, hj⟩ := List.mem_iff_getElem?.1 hf
        exact absurd (hA j f (lt_of_getElem? hj) hj) hnb
    obtain ⟨r, hr, hPr⟩ := hE
    exact ⟨r.1, hPr, call_read (fn := slices_IndexFunc_gantryfactFact_v) («as» := [.list .s (a.map fF), .func 58 [.ptr n 0]]) rfl rfl rfl rfl rfl rfl (.inl rfl) ⟨r, hr, rfl⟩⟩
  obtain ⟨v, ⟨m, hm, rfl⟩, hc⟩ := key
  exact ⟨m, hm, hc⟩
theorem ContainsF_spec {a b : List Fa} {n : Nat} {h : VHeap} (ha : a.length ≤ 1000) (hb : b.length ≤ 1000) (hn : h[n]? = some (.cells true [.list .s (b.map fF)])) (lo : Nat) :
    callVL vp lo n_slices_ContainsFunc_gantryfactFact [.list .s (a.map fF), .func 58 [.ptr n 0]] h = some (.bool (decide (∃ f ∈ a, f ∉ b)), h) := by
  refine call_read (fn := slices_ContainsFunc_gantryfactFact_v) («as» := [.list .s (a.map fF), .func 58 [.ptr n 0]]) rfl rfl rfl rfl rfl rfl (.inl rfl) ?_
  obtain ⟨m, hm, hI⟩ := IndexF_spec ha hb hn h.length
  by_cases h0 : 0 ≤ m
  · have := hm.1 h0
    simp -implicitDefEqProofs only [go_sem, ↓reduceIte, reduceCtorEq, Int.reduceLT, Int.reduceLE, Int.reduceToNat, Nat.reduceAdd, Nat.reduceMul, Nat.reduceLeDiff, Nat.reduceLT, Nat.reduceSub, Int.reduceNeg, Int.reduceEq, Int.reduceBEq, Int.reduceBNe, Nat.reduceEqDiff, hI, h0, this]
  · have : ¬ ∃ f ∈ a, f ∉ b := fun h => h0 (hm.2 h)
    simp -implicitDefEqProofs only [go_sem, ↓reduceIte, reduceCtorEq, Int.reduceLT, Int.reduceLE, Int.reduceToNat, Nat.reduceAdd, Nat.reduceMul, Nat.reduceLeDiff, Nat.reduceLT, Nat.reduceSub, Int.reduceNeg, Int.reduceEq, Int.reduceBEq, Int.reduceBNe, Nat.reduceEqDiff, hI, h0, this]
theorem Within_spec (a b : List Fa) (ha : a.length ≤ 1000) (hb : b.length ≤ 1000) (lo : Nat) (h : VHeap) : callVL vp lo n_fact_Within [.list .s (a.map fF), .list .s (b.map fF)] h = some (.bool (!decide (∃ f ∈ a, f ∉ b)), h) := by
  refine call_valE (fn := fact_Within_v) rfl rfl rfl rfl rfl ?_ lo h
  have hC := ContainsF_spec (a := a) (b := b) (n := 0) (h := [.cells true [.list .s (b.map fF)]]) ha hb rfl
  simp -implicitDefEqProofs only [go_sem, ↓reduceIte, reduceCtorEq, Int.reduceLT, Int.reduceLE, Int.reduceToNat, Nat.reduceAdd, Nat.reduceMul, Nat.reduceLeDiff, Nat.reduceLT, Nat.reduceSub, Int.reduceNeg, Int.reduceEq, Int.reduceBEq, Int.reduceBNe, Nat.reduceEqDiff, hC]
theorem Apply_spec (l less more : List Fa) (h1 : l.length ≤ 500) (h2 : less.length ≤ 1000) (h3 : more.length ≤ 500) (lo : Nat) (h : VHeap) : callVL vp lo n_fact_Apply [.list .s (l.map fF), .list .s (less.map fF), .list .s (more.map fF)] h = some (.list .s ((ofF (ofF (l.filter fun f => !decide (f ∈ less)) ++ more)).map fF), h) := by
  refine call_valE (fn := fact_Apply_v) rfl rfl rfl rfl rfl ?_ lo h
  have hM := Minus_spec l less (by omega) h2
  have hJ := Join_spec (ofF (l.filter fun f => !decide (f ∈ less))) more (by
    have := Nat.le_trans (of_len (l.filter fun f => !decide (f ∈ less))) (List.length_filter_le _ _)
    omega)
  simp -implicitDefEqProofs only [go_sem, ↓reduceIte, reduceCtorEq, Int.reduceLT, Int.reduceLE, Int.reduceToNat, Nat.reduceAdd, Nat.reduceMul, Nat.reduceLeDiff, Nat.reduceLT, Nat.reduceSub, Int.reduceNeg, Int.reduceEq, Int.reduceBEq, Int.reduceBNe, Nat.reduceEqDiff, hM, hJ]
theorem eq_spec (A B : List Fa) (hA : A.length ≤ 1000) (hB : B.length ≤ 1000) (lo : Nat) (h : VHeap) : callVL vp lo n_gantkeep4_FactLaws_1 [.list .s (A.map fF), .list .s (B.map fF)] h = some (.bool (decide (A = B)), h) := by
  refine call_valE (fn := gantkeep4_FactLaws_1_v) rfl rfl rfl rfl rfl ?_ lo h
  have hE := Equal_spec A B hA hB
  simp -implicitDefEqProofs only [go_sem, ↓reduceIte, reduceCtorEq, Int.reduceLT, Int.reduceLE, Int.reduceToNat, Nat.reduceAdd, Nat.reduceMul, Nat.reduceLeDiff, Nat.reduceLT, Nat.reduceSub, Int.reduceNeg, Int.reduceEq, Int.reduceBEq, Int.reduceBNe, Nat.reduceEqDiff, hE]
end Vg.G3
namespace Vg.G3
open Go Lg
set_option linter.unusedVariables false

def ltF (f g : Fa) : Prop := cmpI (toI f) (toI g) < 0
def leF (f g : Fa) : Bool := !decide (cmpI (toI g) (toI f) < 0)
theorem ltF_iff (f g : Fa) : ltF f g ↔ f.k < g.k ∨ f.k = g.k ∧ (f.a < g.a ∨ f.a = g.a ∧ f.b < g.b) := by
  unfold ltF toI
  simp only [cmpI]
  by_cases h1 : f.k < g.k
  · rw [if_pos h1]; omega
  · rw [if_neg h1]
    by_cases h2 : g.k < f.k
    · rw [if_pos h2]; omega
    · rw [if_neg h2]
      by_cases h3 : f.a < g.a
      · rw [if_pos h3]; omega
      · rw [if_neg h3]
        by_cases h4 : g.a < f.a
        · rw [if_pos h4]; omega
        · rw [if_neg h4]
          by_cases h5 : f.b < g.b
          · rw [if_pos h5]; omega
          · rw [if_neg h5]
            by_cases h6 : g.b < f.b
            · rw [if_pos h6]; omega
            · rw [if_neg h6]; omega
theorem leF_iff (f g : Fa) : leF f g = true ↔ ¬ ltF g f := by simp [leF, ltF]
theorem ltF_trans {f g k : Fa} (h1 : ltF f g) (h2 : ltF g k) : ltF f k := by rw [ltF_iff] at *; omega
theorem ltF_asymm {f g : Fa} (h1 : ltF f g) (h2 : ltF g f) : False := by rw [ltF_iff] at *; omega
theorem ltF_of {f g : Fa} (h : leF f g = true) (hne : f ≠ g) : ltF f g := by
  rw [leF_iff, ltF_iff] at h
  rw [ltF_iff]
  have : ¬ (f.k = g.k ∧ f.a = g.a ∧ f.b = g.b) := fun ⟨a, b, c⟩ => hne (by cases f; cases g; simp only at a b c; rw [a, b, c])
  omega
theorem sortFa_eq (l : List Fa) : sortFa l = l.mergeSort leF := by
  have h1 := List.map_mergeSort (r := leF) (s := fun x y => !decide (cmpI y x < 0)) (f := toI) (l := l) (fun a _ b _ => rfl)
  unfold sortFa sortI
  rw [← h1, List.map_map]
  conv => rhs; rw [← List.map_id (l.mergeSort leF)]
  exact List.map_congr_left fun f _ => rfl
theorem sort_pw (l : List Fa) : (sortFa l).Pairwise fun f g => leF f g = true := by
  rw [sortFa_eq]
  refine List.pairwise_mergeSort (fun a b c h1 h2 => ?_) (fun a b => ?_) l
  · rw [leF_iff, ltF_iff] at *; omega
  · rw [Bool.or_eq_true, leF_iff, leF_iff, ltF_iff, ltF_iff]; omega
theorem cmpt_pw : ∀ (l : List Fa) (p : Fa), (p :: l).Pairwise (fun f g => leF f g = true) → (p :: cmpt p l).Pairwise ltF
  | [], p, _ => by simp [cmpt]
  | y :: r, p, h => by
    have h2 := cmpt_pw r y (List.pairwise_cons.1 h).2
    simp only [cmpt]
    by_cases e : y = p
    · rw [if_pos e]; rw [e] at h2 ⊢; exact h2
    · rw [if_neg e]
      have h3 : ltF p y := ltF_of ((List.pairwise_cons.1 h).1 y (by simp)) (fun h => e h.symm)
      refine List.pairwise_cons.2 ⟨fun z hz => ?_, h2⟩
      rcases List.mem_cons.1 hz with rfl | hz
      · exact h3
      · exact ltF_trans h3 ((List.pairwise_cons.1 h2).1 z hz)
theorem of_pw (l : List Fa) : (ofF l).Pairwise ltF := by
  have h := sort_pw (l.filter validF)
  unfold ofF
  cases hs : sortFa (l.filter validF) with
  | nil => simp [compactF]
  | cons x r => rw [hs] at h; exact cmpt_pw r x h
theorem pw_uniq : ∀ {A B : List Fa}, A.Pairwise ltF → B.Pairwise ltF → (∀ x, x ∈ A ↔ x ∈ B) → A = B
  | [], [], _, _, _ => rfl
  | [], b :: B, _, _, h => by have := (h b).2 (by simp); simp at this
  | a :: A, [], _, _, h => by have := (h a).1 (by simp); simp at this
  | a :: A, b :: B, hA, hB, h => by
    have hA' := List.pairwise_cons.1 hA
    have hB' := List.pairwise_cons.1 hB
    have e : a = b := by
      rcases List.mem_cons.1 ((h a).1 (by simp)) with e | e
      · exact e
      · rcases List.mem_cons.1 ((h b).2 (by simp)) with e' | e'
        · exact e'.symm
        · exact absurd (hA'.1 b e') fun h => ltF_asymm h (hB'.1 a e)
    subst e
    congr 1
    refine pw_uniq hA'.2 hB'.2 fun x => ⟨fun hx => ?_, fun hx => ?_⟩
    · rcases List.mem_cons.1 ((h x).1 (List.mem_cons_of_mem _ hx)) with rfl | h2
      · exact absurd (hA'.1 x hx) fun h => ltF_asymm h h
      · exact h2
    · rcases List.mem_cons.1 ((h x).2 (List.mem_cons_of_mem _ hx)) with rfl | h2
      · exact absurd (hB'.1 x hx) fun h => ltF_asymm h h
      · exact h2
/-- The set of a list: facts in order, valid ones. -/
def Canon (A : List Fa) : Prop := A.Pairwise ltF ∧ ∀ x ∈ A, validF x = true
theorem of_canon (l : List Fa) : Canon (ofF l) := ⟨of_pw l, fun x hx => ((of_mem x l).1 hx).2⟩
theorem Canon.set {A : List Fa} (h : Canon A) : setF A := by
  refine ⟨h.2, fun i f g hf hg => ?_⟩
  have h1 := lt_of_getElem? hg
  have := List.pairwise_iff_getElem.1 h.1 i (i + 1) (by omega) h1 (Nat.lt_succ_self i)
  rw [(List.getElem?_eq_some_iff.1 hf).2, (List.getElem?_eq_some_iff.1 hg).2] at this
  exact this
theorem of_eq {l : List Fa} {A : List Fa} (hA : Canon A) (h : ∀ x, validF x = true → (x ∈ l ↔ x ∈ A)) : ofF l = A := by
  refine pw_uniq (of_pw l) hA.1 fun x => ?_
  rw [of_mem]
  constructor
  · rintro ⟨h1, h2⟩; exact (h x h2).1 h1
  · intro h1; exact ⟨(h x (hA.2 x h1)).2 h1, hA.2 x h1⟩
theorem of_congr {l l' : List Fa} (h : ∀ x, validF x = true → (x ∈ l ↔ x ∈ l')) : ofF l = ofF l' :=
  of_eq (of_canon l') fun x hx => by rw [of_mem, h x hx]; simp [hx]
theorem e1 {A : List Fa} (hA : Canon A) : ofF A = A := of_eq hA fun _ _ => Iff.rfl
theorem e2 (A B : List Fa) : ofF (A ++ B) = ofF (B ++ A) := of_congr fun x _ => by simp [or_comm]
theorem e3 (A B : List Fa) : ofF (A.filter fun f => decide (f ∈ B)) = ofF (B.filter fun f => decide (f ∈ A)) := of_congr fun x _ => by simp [and_comm]
theorem e4 (A B C : List Fa) : ofF (A.filter fun f => decide (f ∈ ofF (B ++ C))) = ofF (ofF (A.filter fun f => decide (f ∈ B)) ++ ofF (A.filter fun f => decide (f ∈ C))) := of_congr fun x hx => by
  simp only [List.mem_filter, List.mem_append, of_mem, decide_eq_true_eq, hx, and_true]
  constructor
  · rintro ⟨h1, h2 | h2⟩
    · exact .inl ⟨h1, h2⟩
    · exact .inr ⟨h1, h2⟩
  · rintro (⟨h1, h2⟩ | ⟨h1, h2⟩)
    · exact ⟨h1, .inl h2⟩
    · exact ⟨h1, .inr h2⟩
theorem e5 (A B C : List Fa) : ofF (A.filter fun f => !decide (f ∈ ofF (B ++ C))) = ofF ((ofF (A.filter fun f => !decide (f ∈ B))).filter fun f => decide (f ∈ ofF (A.filter fun f => !decide (f ∈ C)))) := of_congr fun x hx => by
  simp only [List.mem_filter, List.mem_append, of_mem, decide_eq_true_eq, hx, and_true, Bool.not_eq_true', decide_eq_false_iff_not, not_or]
  constructor
  · rintro ⟨h1, h2, h3⟩; exact ⟨⟨h1, h2⟩, h1, h3⟩
  · rintro ⟨⟨h1, h2⟩, _, h3⟩; exact ⟨h1, h2, h3⟩
theorem e6 {A : List Fa} (hA : Canon A) (B : List Fa) : ofF (ofF (A.filter fun f => !decide (f ∈ B)) ++ ofF (A.filter fun f => decide (f ∈ B))) = A := of_eq hA fun x hx => by
  simp only [List.mem_filter, List.mem_append, of_mem, decide_eq_true_eq, hx, and_true, Bool.not_eq_true', decide_eq_false_iff_not]
  constructor
  · rintro (⟨h1, _⟩ | ⟨h1, _⟩) <;> exact h1
  · intro h; by_cases hb : x ∈ B
    · exact .inr ⟨h, hb⟩
    · exact .inl ⟨h, hb⟩
theorem e7 {A B : List Fa} (hA : Canon A) (hB : Canon B) : (!decide (∃ f ∈ A, f ∉ B)) = decide (ofF (A ++ B) = B) := by
  have : (ofF (A ++ B) = B) ↔ ¬ ∃ f ∈ A, f ∉ B := by
    constructor
    · rintro h ⟨f, hf, hn⟩
      exact hn (h ▸ (of_mem f _).2 ⟨List.mem_append_left _ hf, hA.2 f hf⟩)
    · intro h
      refine of_eq hB fun x hx => ?_
      rw [List.mem_append]
      constructor
      · rintro (h1 | h1)
        · exact Decidable.byContradiction fun hn => h ⟨x, h1, hn⟩
        · exact h1
      · exact .inr
  by_cases h : ∃ f ∈ A, f ∉ B
  · rw [decide_eq_true h, decide_eq_false (fun e => this.1 e h)]; rfl
  · rw [decide_eq_false h, decide_eq_true (this.2 h)]; rfl
theorem e8 {A : List Fa} (hA : Canon A) : ofF (ofF (A.filter fun f => !decide (f ∈ ([] : List Fa))) ++ []) = A := of_eq hA fun x hx => by
  simp [of_mem, hx]
end Vg.G3
