/- From the logical machine to a call of the model. -/
import Derived.Test.YtpoofafddbcnpaaVLgCall
namespace Lg
open Go Go.RowKit

/-- The start: nothing is known of the world. -/
theorem Rep.start {m : Bool} (w : World) : Rep (m := m) ⟨w⟩ [] [] w :=
  ⟨rfl,⟨Below.refl _ _,fun _ => Nat.le_refl _⟩,fun n pl hn => by simp at hn,fun n b pl hn => by simp at hn,fun n b pl hn => by simp at hn,fun n m b c pl pm _ hn => by simp at hn⟩

/-- Cells that came in,to be read alone. -/
theorem Rep.addRo {w : World} {m : Bool} {ρ : List Place} {h : Heap} (R : Rep (m := m) ⟨w⟩ ρ h w) (hro : ∀ (n : Nat) (b : LBlk),h[n]? = some b → b.rw = false) {cs : List LV} {pl : Place} (hs : cs.all LV.single = true) (hl : cs.length ≤ pl.ext) (hlt : pl.block < w.heap.size ∨ pl.ext = 0)
    (hc : ∀ (i : Nat) (l : LV),cs[i]? = some l → ∃ v,w.cell? (pl.at i) = some v ∧ VR (ρ ++ [pl]) v l) : Rep (m := m) ⟨w⟩ (ρ ++ [pl]) (h ++ [.cells false cs]) w := by
  have low : ∀ (m : Nat) (pm : Place) (c : LBlk),(ρ ++ [pl])[m]? = some pm → h[m]? = some c → ρ[m]? = some pm := by
    intro m pm c h1 h2
    rcases getElem?_snoc h1 with h | ⟨e,_⟩
    · exact h
    · exact absurd (lt_of_getElem? h2) (by rw [e,R.len]; exact Nat.lt_irrefl _)
  have ro' : ∀ (n : Nat) (b : LBlk),(h ++ [.cells false cs])[n]? = some b → b.rw = false := by
    intro n b hb
    rcases getElem?_snoc hb with h1 | ⟨_,rfl⟩
    · exact hro n b h1
    · rfl
  refine ⟨by simp [R.len],R.below,?_,?_,?_,?_⟩
  · intro n p hn
    rcases getElem?_snoc hn with h1 | ⟨_,rfl⟩
    · exact R.lt n p h1
    · exact hlt
  · intro n b p hb hp
    rcases getElem?_snoc hb with h1 | ⟨e,rfl⟩
    · exact (R.blk n b p h1 (low n p b hp h1)).keeps (Ext.app _ _) (Keeps.refl _ _)
    · have : p = pl := by
        rcases getElem?_snoc hp with h2 | ⟨_,h2⟩
        · exact absurd (lt_of_getElem? h2) (by rw [e,R.len]; exact Nat.lt_irrefl _)
        · exact h2
      subst this
      exact ⟨hs,hl,hc,fun h => by cases h⟩
  · intro n b p hb hr; rw [ro' n b hb] at hr; cases hr
  · intro n m b c p q _ hb _ _ _ hr; rw [ro' n b hb] at hr; cases hr

/-- A slice of integers that came in (as the shell of a law's proof tells it). -/
theorem Rep.addInts {w : World} {m : Bool} {ρ : List Place} {h : Heap} (R : Rep (m := m) ⟨w⟩ ρ h w) (hro : ∀ (n : Nat) (b : LBlk),h[n]? = some b → b.rw = false) {k : IntKind} {x : Addr} {len cap : Nat} {zs : List Int} (hle : len ≤ cap) (hz : zs.length = cap)
    (hcell : ∀ i,i < zs.length → w.cell? (x.add i) = some (.int k (zs.getD i 0))) :
    Rep (m := m) ⟨w⟩ (ρ ++ [⟨x.block,x.off,cap⟩]) (h ++ [.cells false ((zs.take len).map (.int k))]) w ∧ VR (ρ ++ [⟨x.block,x.off,cap⟩]) (.slice (some x) len cap) (.slice h.length 0 len 1 false) := by
  have hsp : 0 < cap → x.spot = none := fun hc => by
    have := hcell 0 (by omega)
    have := World.cell?_spot this
    simpa [Addr.add] using this
  constructor
  · refine R.addRo hro ?_ (by simp; omega) ?_ ?_
    · rw [List.all_eq_true]; intro y hy; obtain ⟨n,_,rfl⟩ := List.mem_map.1 hy; rfl
    · rcases Nat.eq_zero_or_pos cap with h0 | h0
      · exact .inr h0
      · refine .inl ?_
        have := hcell 0 (by omega)
        simp only [Addr.add,if_true] at this
        simp only [World.cell?] at this
        split at this
        · rename_i hb
          obtain ⟨h1,_⟩ := Array.getElem?_eq_some_iff.1 hb
          exact h1
        · cases this
    · intro i l hl
      have hi : i < len := by have := lt_of_getElem? hl; simp at this; omega
      refine ⟨.int k (zs.getD i 0),?_,?_⟩
      · have := hcell i (by omega)
        have hsp' := hsp (by omega)
        have e : x.add i = (Place.mk x.block x.off cap).at i := by
          unfold Addr.add Place.at
          split
          · rename_i e; subst e; cases x; simp_all
          · rfl
        rw [← e]; exact this
      · simp only [List.getElem?_map,List.getElem?_take,hi,if_true] at hl
        rw [List.getD_eq_getElem?_getD]
        cases hz' : zs[i]? with
        | none => rw [hz'] at hl; cases hl
        | some n => rw [hz'] at hl; cases hl; exact .int _ _
  · rcases Nat.eq_zero_or_pos cap with h0 | h0
    · have : len = 0 := by omega
      subst this; subst h0
      exact .slice0 _ _ _ _ (pl := ⟨x.block,x.off,0⟩) (by rw [← R.len]; exact List.getElem?_concat_length)
    · have e : x = (Place.mk x.block x.off cap).at 0 := by
        have := hsp h0
        cases x; simp_all [Place.at]
      have := VR.slice (ρ := ρ ++ [⟨x.block,x.off,cap⟩]) (n := h.length) (off := 0) (len := len) (cap := cap) (es := 1) (full := false) (pl := ⟨x.block,x.off,cap⟩) (by rw [← R.len]; exact List.getElem?_concat_length) hle (by simp) (by simp)
      rw [← e] at this
      exact this

end Lg
