import Derived.Test.YtpoofafddbcnpaaVD2
namespace Vg.G3
open Go Lg
set_option linter.unusedSimpArgs false
set_option maxRecDepth 10000
set_option maxHeartbeats 2000000

/-- Without what equals its predecessor. -/
def cmpt (p : Fa) : List Fa → List Fa
  | [] => []
  | y :: r => if y = p then cmpt y r else y :: cmpt y r
def compactF : List Fa → List Fa
  | [] => []
  | x :: r => x :: cmpt x r
theorem cmpt_mem {x : Fa} : ∀ (p : Fa) (l : List Fa), x ∈ cmpt p l → x ∈ l
  | _, [], h => by simp [cmpt] at h
  | p, y :: r, h => by
    simp only [cmpt] at h
    split at h
    · exact List.mem_cons_of_mem _ (cmpt_mem y r h)
    · rcases List.mem_cons.1 h with rfl | h
      · simp
      · exact List.mem_cons_of_mem _ (cmpt_mem y r h)
theorem mem_cmpt {x : Fa} : ∀ (p : Fa) (l : List Fa), x ∈ l → x = p ∨ x ∈ cmpt p l
  | _, [], h => by simp at h
  | p, y :: r, h => by
    simp only [cmpt]
    rcases List.mem_cons.1 h with rfl | h
    · by_cases e : x = p
      · exact .inl e
      · rw [if_neg e]; exact .inr (by simp)
    · rcases mem_cmpt y r h with rfl | h
      · by_cases e : x = p
        · exact .inl e
        · rw [if_neg e]; exact .inr (by simp)
      · split
        · exact .inr h
        · exact .inr (List.mem_cons_of_mem _ h)
theorem compact_mem (x : Fa) (l : List Fa) : x ∈ compactF l ↔ x ∈ l := by
  cases l with
  | nil => simp [compactF]
  | cons y r =>
    simp only [compactF, List.mem_cons]
    constructor
    · rintro (h | h)
      · exact .inl h
      · exact .inr (cmpt_mem y r h)
    · rintro (h | h)
      · exact .inl h
      · exact mem_cmpt y r h
def lastD : Fa → List Fa → Fa
  | p, [] => p
  | _, x :: r => lastD x r
theorem cmpt_snoc : ∀ (p : Fa) (r : List Fa) (y : Fa), cmpt p (r ++ [y]) = cmpt p r ++ (if y = lastD p r then [] else [y])
  | p, [], y => rfl
  | p, x :: r, y => by
    have := cmpt_snoc x r y
    simp only [List.cons_append, cmpt, lastD]
    rw [this]
    by_cases h : x = p
    · subst h; simp only [if_true]; rfl
    · rw [if_neg h, if_neg h]; rfl
theorem lastD_get : ∀ (p : Fa) (r : List Fa), (p :: r)[r.length]? = some (lastD p r)
  | p, [] => rfl
  | p, x :: r => by
    have := lastD_get x r
    simpa [lastD] using this
theorem compact_snoc {l : List Fa} {y z : Fa} (hz : l[l.length - 1]? = some z) : compactF (l ++ [y]) = compactF l ++ (if y = z then [] else [y]) := by
  cases l with
  | nil => simp at hz
  | cons x r =>
    have e := lastD_get x r
    rw [List.length_cons, Nat.add_sub_cancel] at hz
    rw [e] at hz
    cases hz
    simp only [List.cons_append, compactF, cmpt_snoc]
theorem compact_len (l : List Fa) : (compactF l).length ≤ l.length := by
  have key : ∀ (r : List Fa) (p : Fa), (cmpt p r).length ≤ r.length := by
    intro r
    induction r with
    | nil => intro p; simp [cmpt]
    | cons y r ih =>
      intro p
      simp only [cmpt]
      have := ih y
      split <;> simp <;> omega
  cases l with
  | nil => simp [compactF]
  | cons x r => have := key r x; simp [compactF]; omega
theorem compact_step {l : List Fa} {j : Nat} {y z : Fa} (hj : 1 ≤ j) (hy : l[j]? = some y) (hz : l[j - 1]? = some z) : compactF (l.take (j + 1)) = compactF (l.take j) ++ (if y = z then [] else [y]) := by
  rw [take_succ_map hy]
  refine compact_snoc ?_
  have hlt := lt_of_getElem? hy
  rw [List.length_take, Nat.min_eq_left (by omega), List.getElem?_take, if_pos (by omega)]
  exact hz
end Vg.G3
