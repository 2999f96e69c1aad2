/- From the logical machine to a call of the model. -/
import Derived.Test.YtiidghpdgkfncaaVLgCall
namespace Lg
open Go Go.RowKit

/-- The start: nothing is known of the world. -/
theorem Rep.start {m : Bool} (w : World) : Rep (m := m) ⟨w⟩ [] [] w :=
  ⟨rfl,⟨Below.refl _ _,fun _ => Nat.le_refl _⟩,fun n pl hn => by simp at hn,fun n b pl hn => by simp at hn,fun n b pl hn => by simp at hn,fun n m b c pl pm _ hn => by simp at hn⟩

/-- Cells that came in,to be read alone. -/
theorem Rep.addRo {w : World} {m : Bool} {ρ : List Place} {h : Heap} (R : Rep (m := m) ⟨w⟩ ρ h w) (hro : ∀ (n : Nat) (b : LBlk),h[n]? = some b → b.rw = false) {cs : List LV} {pl : Place} (hs : cs.all LV.single = true) (hl : cs.length ≤ pl.ext) (hlt : pl.block < w.heap.size ∨ pl.ext = 0)
    (hc : ∀ (i : Nat) (l : LV),cs[i]? = some l → ∃ v,w.cell? (pl.at i) = some v ∧ VR (ρ ++ [pl]) v l) : Rep (m := m) ⟨w⟩ (ρ ++ [pl]) (h ++ [.cells false cs]) w := by
  have low : ∀ (m : Nat) (pm : Place) (c : LBlk),(ρ ++ [pl])[m]? = some pm → h[m]? = some c → ρ[m]? = some pm := by
    intro m pm c h1 h2
    rcases getElem?_snoc h1 with h | ⟨e,_⟩
    · exact h
    · exact absurd (lt_of_getElem? h2) (by rw [e,R.len]; exact Nat.lt_irrefl _)
  have ro' : ∀ (n : Nat) (b : LBlk),(h ++ [.cells false cs])[n]? = some b → b.rw = false := by
    intro n b hb
    rcases getElem?_snoc hb with h1 | ⟨_,rfl⟩
    · exact hro n b h1
    · rfl
  refine ⟨by simp [R.len],R.below,?_,?_,?_,?_⟩
  · intro n p hn
    rcases getElem?_snoc hn with h1 | ⟨_,rfl⟩
    · exact R.lt n p h1
    · exact hlt
  · intro n b p hb hp
    rcases getElem?_snoc hb with h1 | ⟨e,rfl⟩
    · exact (R.blk n b p h1 (low n p b hp h1)).keeps (Ext.app _ _) (Keeps.refl _ _)
    · have : p = pl := by
        rcases getElem?_snoc hp with h2 | ⟨_,h2⟩
        · exact absurd (lt_of_getElem? h2) (by rw [e,R.len]; exact Nat.lt_irrefl _)
        · exact h2
      subst this
      exact ⟨hs,hl,hc,fun h => by cases h⟩
  · intro n b p hb hr; rw [ro' n b hb] at hr; cases hr
  · intro n m b c p q _ hb _ _ _ hr; rw [ro' n b hb] at hr; cases hr

end Lg
