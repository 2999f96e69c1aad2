/- Functions of the library that are proved elsewhere,as functions of the logical machine. -/
import Derived.Test.YtpoofafddbcnpaaVLgCall
namespace Lg
open Go Go.RowKit
variable {m : Bool} {P : Program} {f : FuncId}
theorem vr_str {ρ : List Place} {v : Value} {s : List UInt8} (h : VR ρ v (.str s)) : ∃ b : ByteArray,v = .string b ∧ b.data.toList = s := by
  generalize hl : LV.str s = l at h
  cases h with
  | undef => cases hl
  | str b => cases hl; exact ⟨b,rfl,rfl⟩
  | _ => cases hl
/-- More blocks,and nothing else. -/
theorem Rep.grow {m : Bool} {w0 : Ini m} {w w' : World} {ρ : List Place} {h : Heap} (R : Rep w0 ρ h w) (b : Below w.heap.size w w') (hd : m = true → w.drawn ≤ w'.drawn) : Rep w0 ρ h w' := by
  have keep : ∀ pl : Place,pl.block < w.heap.size ∨ pl.ext = 0 → Keeps w w' pl := fun pl hl => by
    rcases hl with hl | hl
    · exact ⟨fun i _ => b.cell hl,fun i _ => b.frozen hl,fun _ _ es c h => by rw [b.block _ hl]; exact h⟩
    · exact ⟨fun i hi => by omega,fun i hi => by omega,fun h1 => by omega⟩
  refine ⟨R.len,⟨R.below.toBelow.trans (b.mono R.below.size),fun e => Nat.le_trans (R.below.dr e) (hd e)⟩,fun n pl hn => ?_,fun n bk pl hb hp => ?_,R.own,R.dis⟩
  · rcases R.lt n pl hn with h1 | h1
    · exact .inl (Nat.lt_of_lt_of_le h1 b.size)
    · exact .inr h1
  · have hB := R.blk n bk pl hb hp
    refine hB.keeps (Ext.refl _) (keep _ ?_)
    rcases R.lt n pl hp with h1 | h1
    · exact .inl (by rw [LBlk.span_block]; exact h1)
    · exact .inr (by have := hB.span_le; omega)
theorem bytes_back (s : List UInt8) : (ByteArray.mk s.toArray).data.toList = s := by simp
end Lg
