/- Rows that came in. -/
import Derived.Test.YtehpimogdcilaaaLgSpec
namespace Lg
open Go Go.RowKit
theorem Rep.addRow {w : World} {ρ : List Place} {h : Heap} (R : Rep w ρ h w) (hro : ∀ (n : Nat) (b : LBlk), h[n]? = some b → b.rw = false) {a : Option Addr} {len cap : Nat} {zs : List Int}
    (hr : (a = none ∧ len = 0 ∧ cap = 0 ∧ zs = []) ∨ ∃ x, a = some x ∧ len ≤ cap ∧ cap ≤ maxLen ∧ zs.length = cap ∧ (∀ i, i < zs.length → w.cell? (x.add i) = some (.int .i64 (zs.getD i 0))) ∧ ∀ n ∈ zs, (Lit.int .i64 n).wf = true) :
    ∃ ρ' h' lv, Rep w ρ' h' w ∧ (∀ (n : Nat) (b : LBlk), h'[n]? = some b → b.rw = false) ∧ Ext ρ ρ' ∧ RoKeep h h' ∧ VR ρ' (.slice a len cap) lv ∧ RInts h' lv (zs.take len) := by
  rcases hr with ⟨rfl, rfl, rfl, rfl⟩ | ⟨x, rfl, hle, _, hz, hc, _⟩
  · exact ⟨ρ, h, .nilslice, R, hro, Ext.refl _, RoKeep.refl _, .nilslice, .inl ⟨rfl, rfl⟩⟩
  · obtain ⟨h1, h2⟩ := R.addInts hro hle hz hc
    refine ⟨_, _, _, h1, ?_, Ext.app _ _, RoKeep.app _ _, h2, .inr ⟨h.length, 0, false, (zs.take len).map (.int .i64), ?_, by rw [List.getElem?_concat_length], by simp, fun i y hy => by rw [Nat.zero_add, List.getElem?_map, hy]; rfl⟩⟩
    · intro n b hb
      rcases getElem?_snoc hb with h3 | ⟨_, rfl⟩
      · exact hro n b h3
      · rfl
    · congr 1; rw [List.length_take]; omega
theorem VRs.two {ρ : List Place} {v0 v1 : Value} {l0 l1 : LV} (h0 : VR ρ v0 l0) (h1 : VR ρ v1 l1) : VRs ρ [v0, v1] [l0, l1] := by
  refine ⟨rfl, fun i v l hv hl => ?_⟩
  match i with
  | 0 => cases hv; cases hl; exact h0
  | 1 => cases hv; cases hl; exact h1
  | i + 2 => cases hv
theorem VRs.one {ρ : List Place} {v0 : Value} {l0 : LV} (h0 : VR ρ v0 l0) : VRs ρ [v0] [l0] := by
  refine ⟨rfl, fun i v l hv hl => ?_⟩
  match i with
  | 0 => cases hv; cases hl; exact h0
  | i + 1 => cases hv
theorem Rep.start_ro : ∀ (n : Nat) (b : LBlk), ([] : Heap)[n]? = some b → b.rw = false := fun n b h => by simp at h
end Lg
