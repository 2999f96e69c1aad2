import Derived.Test.YtpoofafddbcnpaaVHF
import Derived.Test.YtpoofafddbcnpaaVH9
namespace Vg.G3
open Go Lg
set_option linter.unusedSimpArgs false
set_option linter.unusedVariables false
set_option maxRecDepth 10000
set_option maxHeartbeats 4000000
attribute [local congr] bind_congr1
attribute [local go_sem] gantkeep4_acted_r0 gantkeep4_acted_r1 gantkeep4_acted_r1_d gantkeep4_acted_r2 gantkeep4_acted_r3 gantkeep4_acted_f gantkeep4_acted_v gantkeep4_ActAll_r0 gantkeep4_ActAll_r1 gantkeep4_ActAll_r2 gantkeep4_ActAll_r3 gantkeep4_ActAll_r4 gantkeep4_ActAll_r4_d gantkeep4_ActAll_f gantkeep4_ActAll_v
def w1 : Wd := ⟨0, [-1], [false], [-1]⟩
def s1 : Stp := ⟨0, 0, 0, -1, 0⟩
theorem w1_ok : Ok w1 := ⟨⟨by decide, by decide, by decide, by decide, by decide⟩, fun i x hx => by
    match i, hx with
    | 0, hx => simp [w1] at hx; subst hx; exact ⟨by decide, by decide, .inl rfl⟩
    | i + 1, hx => simp [w1] at hx, fun i x hx => by
    match i, hx with
    | 0, hx => simp [w1] at hx; subst hx; exact ⟨by decide, by decide, by decide, .inl rfl⟩
    | i + 1, hx => simp [w1] at hx⟩
theorem s1_can : canF w1 s1 := by
  refine ⟨by decide, by decide, by decide, by decide, ?_⟩
  unfold mayF hereF
  refine ⟨fun _ => ⟨by decide, by decide, by decide, by decide⟩, fun h => absurd h (by decide), fun h => absurd h (by decide), fun h => absurd h (by decide), fun h => absurd h (by decide)⟩
theorem acted_spec (lo : Nat) (h : VHeap) : callVL vp lo n_gantkeep4_acted [] h = some (.bool true, h) := by
  refine call_valE (fn := gantkeep4_acted_v) rfl rfl rfl rfl rfl ?_ lo h
  have hS := Start_spec [armR []] [] [partR []] [] [] false [] [] (by decide) (by decide) (by decide)
  have hD := Do_yes w1_ok (by decide) (by decide) s1 s1_can
  have e : doF w1 s1 = ⟨0, [-1], [false], [8]⟩ := by decide
  rw [e] at hD
  simp only [armR, partR, startW, fW, fI, fB, List.length_cons, List.length_nil, List.replicate, List.map_cons, List.map_nil, Nat.zero_add, Int.natCast_zero, cast_zero] at hS
  simp only [w1, s1, fW, fS, fI, fB, List.map_cons, List.map_nil] at hD
  have hb : ((168 : Nat) : Int) * 1 ≤ 281474976710656 := by decide
  simp -implicitDefEqProofs only [go_sem, ↓reduceIte, reduceCtorEq, Int.reduceLT, Int.reduceLE, Int.reduceToNat, Nat.reduceAdd, Nat.reduceMul, Nat.reduceLeDiff, Nat.reduceLT, Nat.reduceSub, Int.reduceNeg, Int.reduceEq, Int.reduceBEq, Int.reduceBNe, Nat.reduceEqDiff, hS, hD, Int.reduceMul]
theorem steps_mem {w : Wd} (hw : Ok w) (s : Stp) : s ∈ stepsF w ↔ canF w s ∧ s.k ≤ 3 := by
  have h0 := hw.sl0
  unfold stepsF keepS
  rw [sortS_mem, List.mem_filter]
  have hc : (!delF w s) = true ↔ canF w s := by unfold delF; simp
  rw [hc]
  constructor
  · rintro ⟨h1, h2⟩
    refine ⟨h2, ?_⟩
    unfold cands at h1
    obtain ⟨k, hk, h3⟩ := List.mem_flatMap.1 h1
    unfold candK at h3
    obtain ⟨a, ha, h4⟩ := List.mem_flatMap.1 h3
    have := List.mem_range.1 hk
    rcases List.mem_append.1 h4 with h5 | h5 <;> obtain ⟨p, _, rfl⟩ := List.mem_map.1 h5 <;> simp only <;> omega
  · rintro ⟨h1, h2⟩
    refine ⟨?_, h1⟩
    obtain ⟨f, ha, hp, hs, _⟩ := h1
    obtain ⟨k, a, p, q, t⟩ := s
    simp only at *
    unfold formF at f
    simp only at f
    split at f
    · cases f
    rename_i hn
    have hk0 : 0 ≤ k := by
      rcases (show k < 0 ∨ 0 ≤ k by omega) with h | h
      · rw [if_neg (by omega), if_neg (by omega), if_neg (by omega), if_neg (by omega)] at f; cases f
      · exact h
    have key : t = 0 ∧ ((0 ≤ p ∧ q = -1) ∨ (p = -1 ∧ 0 ≤ q)) := by
      split at f
      · have := of_decide_eq_true f; omega
      · split at f
        · have := of_decide_eq_true f; omega
        · split at f
          · have := of_decide_eq_true f; omega
          · split at f
            · omega
            · cases f
    obtain ⟨rfl, hpq⟩ := key
    unfold cands
    refine List.mem_flatMap.2 ⟨k.toNat, List.mem_range.2 (by omega), ?_⟩
    unfold candK
    refine List.mem_flatMap.2 ⟨a.toNat, List.mem_range.2 (by omega), ?_⟩
    unfold candA
    rcases hpq with ⟨h3, rfl⟩ | ⟨rfl, h3⟩
    · refine List.mem_append_left _ (List.mem_map.2 ⟨p.toNat, List.mem_range.2 (by omega), ?_⟩)
      rw [Int.toNat_of_nonneg hk0, Int.toNat_of_nonneg (by omega), Int.toNat_of_nonneg h3]
    · refine List.mem_append_right _ (List.mem_map.2 ⟨q.toNat, List.mem_range.2 (by omega), ?_⟩)
      rw [Int.toNat_of_nonneg hk0, Int.toNat_of_nonneg (by omega), Int.toNat_of_nonneg h3]
theorem steps_len (w : Wd) (hs : Small w) : (stepsF w).length ≤ 1000 := by
  unfold stepsF
  rw [sortS_len]
  refine Nat.le_trans (keep_len w _) ?_
  rw [cands_len]
  have := hs.sp
  have := hs.pl
  have := hs.sl0
  have := hs.sl8
  exact Nat.le_trans (Nat.mul_le_mul (Nat.le_refl 4) (Nat.mul_le_mul hs.sp (show w.pl.length + w.sl.toNat ≤ 14 by omega))) (by decide)
theorem ActAll_law (raw l : List Int) (kind arm part slot : Int) : callVL vp 0 n_gantkeep4_ActAll [.list .s (raw.map fun x => [.int .i64 x]), .list .s (l.map fun x => [.int .i64 x]), .int .i64 kind, .int .i64 arm, .int .i64 part, .int .i64 slot] [] = some (.bool true, []) := by
  refine call_valE (fn := gantkeep4_ActAll_v) rfl rfl rfl rfl rfl ?_ 0 []
  obtain ⟨a, p, s, ha1, ha2, hp1, hp2, hs1, hs2, hSm⟩ := Small_spec raw
  obtain ⟨w, hw, hsl, hpl, hsp, hW⟩ := World_spec a p s ha1 ha2 hp1 hp2 hs1 hs2 l
  have hB1 := Below_spec kind 4 (by omega)
  have hB2 := Below_spec arm 3 (by omega)
  have hB3 := Below_spec part 4 (by omega)
  have hB4 := Below_spec slot 4 (by omega)
  have b1 := belowP_bnd kind 4 (by omega) (by omega)
  have b3 := belowP_bnd part 4 (by omega) (by omega)
  have b4 := belowP_bnd slot 4 (by omega) (by omega)
  have w3 : IntKind.i64.wrap (belowP part 4 - 1) = belowP part 4 - 1 := wrap_id (by omega) (by omega)
  have w4 : IntKind.i64.wrap (belowP slot 4 - 1) = belowP slot 4 - 1 := wrap_id (by omega) (by omega)
  generalize hst : (⟨belowP kind 4, belowP arm 3, belowP part 4 - 1, belowP slot 4 - 1, 0⟩ : Stp) = st
  have hSt := Steps_spec hw (by omega) (by omega)
  have hA := acted_spec
  obtain ⟨e, he, hC⟩ := Can_spec hw st
  have hCo := ContainsSt_spec (stepsF w) st (by have := steps_len w hw.toSmall; omega)
  have hIS := IsSorted_spec (steps_len w hw.toSmall) (sortS_sorted _)
  have hmem := steps_mem hw st
  have hk3 : st.k ≤ 3 := by rw [← hst]; simp only; omega
  subst hst
  simp only [fW, fS, smallV] at hW hSt hC hCo hIS hSm
  by_cases h0 : e = 0
  · have hm := hmem.2 ⟨he.1 h0, hk3⟩
    subst h0
    simp only [hm, decide_true] at hCo
    simp -implicitDefEqProofs only [go_sem, ↓reduceIte, reduceCtorEq, Int.reduceLT, Int.reduceLE, Int.reduceToNat, Nat.reduceAdd, Nat.reduceMul, Nat.reduceLeDiff, Nat.reduceLT, Nat.reduceSub, Int.reduceNeg, Int.reduceEq, Int.reduceBEq, Int.reduceBNe, Nat.reduceEqDiff, hSm, hW, hB1, hB2, hB3, hB4, w3, w4, hSt, hA, hC, hCo, hIS]
  · have hm : ¬ _ ∈ stepsF w := fun h => h0 (he.2 (hmem.1 h).1)
    simp only [hm, decide_false] at hCo
    simp -implicitDefEqProofs only [go_sem, ↓reduceIte, reduceCtorEq, Int.reduceLT, Int.reduceLE, Int.reduceToNat, Nat.reduceAdd, Nat.reduceMul, Nat.reduceLeDiff, Nat.reduceLT, Nat.reduceSub, Int.reduceNeg, Int.reduceEq, Int.reduceBEq, Int.reduceBNe, Nat.reduceEqDiff, hSm, hW, hB1, hB2, hB3, hB4, w3, w4, hSt, hA, hC, hCo, hIS, h0]
end Vg.G3
