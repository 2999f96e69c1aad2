import Derived.Test.YtehpimogdcilaaaLgSe
namespace Lg.G1
open Go Lg
set_option linter.unusedSimpArgs false
set_option maxRecDepth 10000
attribute [local congr] bind_congr1

theorem three_at {cs : List LV} {q : Nat} {a b c : LV} (h : (cs.drop q).take 3 = [a, b, c]) : cs[q]? = some a ∧ cs[q + 1]? = some b ∧ cs[q + 2]? = some c := by
  have g : ∀ i, i < 3 → cs[q + i]? = [a, b, c][i]? := fun i hi => by
    rw [← h, List.getElem?_take, if_pos hi, List.getElem?_drop]
  exact ⟨g 0 (by omega), g 1 (by omega), g 2 (by omega)⟩
/-- The uses of the first k tasks. -/
def usedP (ts : List TaskR) (A : List Int) : Nat → List Use
  | 0 => []
  | k + 1 => usedP ts A k ++ (match ts[k]? with | some t => if 0 ≤ t.tool then [⟨t.tool, gt A k, t.long⟩] else [] | none => [])
theorem usedP_congr (ts : List TaskR) (A A' : List Int) (k : Nat) (h : ∀ j : Nat, j < k → gt A j = gt A' j) : usedP ts A k = usedP ts A' k := by
  induction k with
  | zero => rfl
  | succ k ih => rw [usedP, usedP, ih (fun j hj => h j (by omega)), h k (by omega)]
theorem usedP_mem {ts : List TaskR} {A : List Int} {k : Nat} {v : Use} : v ∈ usedP ts A k ↔ ∃ (i : Nat) (t : TaskR), i < k ∧ ts[i]? = some t ∧ 0 ≤ t.tool ∧ v = ⟨t.tool, gt A i, t.long⟩ := by
  induction k with
  | zero => simp [usedP]
  | succ k ih =>
    rw [usedP, List.mem_append, ih]
    constructor
    · rintro (⟨i, t, h1, h2⟩ | h)
      · exact ⟨i, t, by omega, h2⟩
      · cases ht : ts[k]? with
        | none => rw [ht] at h; cases h
        | some t =>
          rw [ht] at h
          simp only at h
          split at h
          · rename_i h0; simp only [List.mem_singleton] at h; exact ⟨k, t, by omega, ht, h0, h⟩
          · cases h
    · rintro ⟨i, t, h1, h2, h3, h4⟩
      by_cases hik : i = k
      · subst hik; right; rw [h2]; simp only [h3, if_true, h4, List.mem_singleton]
      · exact .inl ⟨i, t, by omega, h2, h3, h4⟩
theorem usedP_len (ts : List TaskR) (A : List Int) (k : Nat) : (usedP ts A k).length ≤ k := by
  induction k with
  | zero => simp [usedP]
  | succ k ih =>
    rw [usedP, List.length_append]
    have : (match ts[k]? with | some t => if 0 ≤ t.tool then [(⟨t.tool, gt A k, t.long⟩ : Use)] else [] | none => []).length ≤ 1 := by
      cases ts[k]? with
      | none => simp
      | some t => simp only; split <;> simp
    omega
theorem GoodN.snoc {us : List Use} {u : Use} (h : GoodN us us.length) (hv : validU u) (hc : ∀ v ∈ us, ¬ clashU u v) : GoodN (us ++ [u]) (us ++ [u]).length := by
  intro i w hi hw
  rcases getElem?_snoc hw with h1 | ⟨h1, rfl⟩
  · have hil := lt_of_getElem? h1
    obtain ⟨g1, g2⟩ := h i w hil h1
    refine ⟨g1, fun j x hj hx => g2 j x hj ?_⟩
    rwa [List.getElem?_append_left (by omega)] at hx
  · refine ⟨hv, fun j x hj hx => hc x ?_⟩
    rw [List.getElem?_append_left (by omega)] at hx
    exact List.mem_of_getElem? hx
def longs (ts : List TaskR) : List Int := ts.map (·.long)
theorem gt_longs {ts : List TaskR} {x : Int} {t : TaskR} (h : ts[x.toNat]? = some t) : gt (longs ts) x = t.long := by
  unfold gt longs; rw [List.getD_eq_getElem?_getD, List.getElem?_map, h]; rfl

/-- A plan of the first k tasks. -/
def PlanP (ts : List TaskR) (A : List Int) (k : Nat) : Prop :=
  A.length = k ∧ GoodN (usedP ts A k) (usedP ts A k).length ∧ ∀ (i : Nat) (t : TaskR), i < k → ts[i]? = some t →
    0 ≤ gt A i ∧ gt A i ≤ 20 * i ∧ (∀ x ∈ t.after, gt A x + gt (longs ts) x ≤ gt A i) ∧
    (gt A i = 0 ∨ (∃ x ∈ t.after, gt A x + gt (longs ts) x = gt A i) ∨ (0 ≤ t.tool ∧ ∃ v ∈ usedP ts A i, clashU ⟨t.tool, gt A i - 1, t.long⟩ v))
theorem PlanP.snoc {ts : List TaskR} {A : List Int} {k : Nat} {t : TaskR} {F : Int} (hg : GoodT ts) (h : PlanP ts A k) (ht : ts[k]? = some t) (hF1 : atOf A (longs ts) t.after ≤ F) (hF2 : F ≤ 20 * k)
    (hF3 : F = atOf A (longs ts) t.after ∨ (0 ≤ t.tool ∧ ∃ v ∈ usedP ts A k, clashU ⟨t.tool, F - 1, t.long⟩ v)) (hF4 : 0 ≤ t.tool → ∀ v ∈ usedP ts A k, ¬ clashU ⟨t.tool, F, t.long⟩ v) : PlanP ts (A ++ [F]) (k + 1) := by
  obtain ⟨h1, h2, h3⟩ := h
  obtain ⟨g1, g2, g3, g4, g5, _⟩ := hg.2 k t ht
  have hk := lt_of_getElem? ht
  have hkl := hg.1
  have lt : ∀ j : Int, j.toNat < k → gt (A ++ [F]) j = gt A j := fun j hj => gt_snoc_lt (by omega)
  have eq : gt (A ++ [F]) k = F := by have := gt_snoc_eq (E := A) (a := F); rwa [h1] at this
  have us : ∀ i, i ≤ k → usedP ts (A ++ [F]) i = usedP ts A i := fun i hi => usedP_congr _ _ _ _ fun j hj => lt j (by simp; omega)
  have hat := atOf_nonneg A (longs ts) t.after
  refine ⟨by simp [h1], ?_, ?_⟩
  · rw [usedP, us k (Nat.le_refl k), ht, eq]
    simp only
    split
    · rename_i h0
      refine h2.snoc ?_ (hF4 h0)
      refine ⟨h0, g2, by simp only; omega, g3, by simp only; omega, by simp only; omega⟩
    · rw [List.append_nil]; exact h2
  · intro i t' hi ht'
    by_cases hik : i = k
    · subst hik
      rw [ht] at ht'; cases ht'
      rw [eq, us i (Nat.le_refl i)]
      have hx : ∀ x ∈ t.after, gt (A ++ [F]) x = gt A x := fun x hx => lt x (by have := g5 x hx; omega)
      refine ⟨by omega, hF2, fun x hxm => ?_, ?_⟩
      · rw [hx x hxm]; have := le_atOf A (longs ts) t.after hxm; omega
      · rcases hF3 with h | h
        · rcases atOf_hit A (longs ts) t.after with h0 | ⟨x, hxm, h0⟩
          · left; omega
          · right; left; exact ⟨x, hxm, by rw [hx x hxm]; omega⟩
        · exact .inr (.inr h)
    · obtain ⟨p1, p2, p3, p4⟩ := h3 i t' (by omega) ht'
      obtain ⟨_, _, _, _, g5', _⟩ := hg.2 i t' ht'
      have hx : ∀ x ∈ t'.after, gt (A ++ [F]) x = gt A x := fun x hx => lt x (by have := g5' x hx; omega)
      rw [lt i (by simp; omega), us i (by omega)]
      refine ⟨p1, p2, fun x hxm => by rw [hx x hxm]; exact p3 x hxm, ?_⟩
      rcases p4 with h | ⟨x, hxm, h⟩ | h
      · exact .inl h
      · exact .inr (.inl ⟨x, hxm, by rw [hx x hxm]; exact h⟩)
      · exact .inr (.inr h)
/-- What First is given. -/
theorem PlanP.farg {ts : List TaskR} {A : List Int} {k : Nat} {t : TaskR} (hg : GoodT ts) (h : PlanP ts A k) (ht : ts[k]? = some t) (h0 : 0 ≤ t.tool) : FArg (usedP ts A k) t.tool (atOf A (longs ts) t.after) t.long (20 * k) := by
  obtain ⟨h1, h2, h3⟩ := h
  obtain ⟨g1, g2, g3, g4, g5, _⟩ := hg.2 k t ht
  have hkl := hg.1
  have hk := lt_of_getElem? ht
  refine ⟨h0, g2, atOf_nonneg _ _ _, atOf_le _ _ _ _ (by omega) fun x hx => ?_, g3, by omega, fun v hv => ?_⟩
  · have hb := g5 x hx
    obtain ⟨tx, htx⟩ : ∃ tx, ts[x.toNat]? = some tx := ⟨_, List.getElem?_eq_getElem (by omega)⟩
    have h4 := h3 x.toNat tx (by omega) htx
    obtain ⟨_, _, _, l4, _⟩ := hg.2 x.toNat tx htx
    rw [Int.toNat_of_nonneg hb.1] at h4
    rw [gt_longs htx]
    omega
  · obtain ⟨j, hj, hjv⟩ := List.mem_iff_getElem.1 hv
    have hval := (h2 j v hj (by rw [List.getElem?_eq_getElem hj, hjv])).1
    obtain ⟨i, ti, hi, hti, _, rfl⟩ := usedP_mem.1 hv
    have h4 := h3 i ti hi hti
    obtain ⟨_, _, _, l4, _⟩ := hg.2 i ti hti
    exact ⟨hval, by simp only; omega⟩
end Lg.G1
