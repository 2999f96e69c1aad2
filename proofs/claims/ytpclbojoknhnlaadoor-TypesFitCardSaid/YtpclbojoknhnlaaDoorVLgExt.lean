/- Functions of the library that are proved elsewhere, as functions of the logical machine. -/
import Derived.Test.YtpclbojoknhnlaaDoorVLgCall
namespace Lg
open Go Go.RowKit
/-- One operation of the library, of two arguments. -/
def ext2 (k : ExtK) : LFunc := ⟨3, 2, [.tmp 2], .ops [⟨some 2, none, .ext k [.t 0, .t 1]⟩]⟩
theorem ext2_run {cs : CallS} {K : Nat} {k : ExtK} {args : List LV} {h : Heap} {Q : LV → Heap → Prop} (hb : bodyS cs K (ext2 k) args h Q) : ∃ a b v, args = [a, b] ∧ extE k [argE h a, argE h b] = some v ∧ Q v h := by
  obtain ⟨h1, h2⟩ := hb
  match args, h1 with
  | [a, b], _ =>
    simp only [ext2, codeS, opsS, operS, opS, opE] at h2
    obtain ⟨v, h', h3, h4⟩ := h2
    split at h3
    case h_2 => cases h3
    rename_i r hr
    cases h3
    obtain ⟨_, vs, h5, h6⟩ := h4
    simp [resultsE, resE, putE] at h5
    subst h5
    exact ⟨a, b, _, rfl, hr, h6⟩
variable {m : Bool} {P : Program} {f : FuncId}
theorem argE_str {h : Heap} {l : LV} {s : List UInt8} (e : argE h l = .str s) : l = .str s := by
  unfold argE at e
  split at e <;> first | (cases e; done) | (cases e; rfl) | skip
  split at e
  · cases e
  · split at e
    · split at e <;> cases e
    · cases e
theorem vr_str {ρ : List Place} {v : Value} {s : List UInt8} (h : VR ρ v (.str s)) : ∃ b : ByteArray, v = .string b ∧ b.data.toList = s := by
  generalize hl : LV.str s = l at h
  cases h with
  | undef => cases hl
  | str b => cases hl; exact ⟨b, rfl, rfl⟩
  | _ => cases hl
theorem vrs_two {ρ : List Place} {vs : Array Value} {a b : LV} (h : VRs ρ vs.toList [a, b]) : ∃ x y, vs = #[x, y] ∧ VR ρ x a ∧ VR ρ y b := by
  obtain ⟨h1, h2⟩ := h
  cases vs with
  | mk l =>
    match l, h1 with
    | [x, y], _ => exact ⟨x, y, rfl, h2 0 x a rfl rfl, h2 1 y b rfl rfl⟩
/-- More blocks, and nothing else. -/
theorem Rep.grow {m : Bool} {w0 : Ini m} {w w' : World} {ρ : List Place} {h : Heap} (R : Rep w0 ρ h w) (b : Below w.heap.size w w') (hd : m = true → w.drawn ≤ w'.drawn) : Rep w0 ρ h w' := by
  have keep : ∀ pl : Place, pl.block < w.heap.size ∨ pl.ext = 0 → Keeps w w' pl := fun pl hl => by
    rcases hl with hl | hl
    · exact ⟨fun i _ => b.cell hl, fun i _ => b.frozen hl, fun _ _ es c h => by rw [b.block _ hl]; exact h⟩
    · exact ⟨fun i hi => by omega, fun i hi => by omega, fun h1 => by omega⟩
  refine ⟨R.len, ⟨R.below.toBelow.trans (b.mono R.below.size), fun e => Nat.le_trans (R.below.dr e) (hd e)⟩, fun n pl hn => ?_, fun n bk pl hb hp => ?_, R.own, R.dis⟩
  · rcases R.lt n pl hn with h1 | h1
    · exact .inl (Nat.lt_of_lt_of_le h1 b.size)
    · exact .inr h1
  · have hB := R.blk n bk pl hb hp
    refine hB.keeps (Ext.refl _) (keep _ ?_)
    rcases R.lt n pl hp with h1 | h1
    · exact .inl (by rw [LBlk.span_block]; exact h1)
    · exact .inr (by have := hB.span_le; omega)
theorem cmp_ok (hf : ∃ fn, P.funcs[f]? = some fn ∧ fn.body.isSome = true ∧ fn.name ≠ "runtime.NumGoroutine")
    (hc : ∀ (a b : ByteArray) (w : World), Calls P f #[.string a, .string b] w fun e w' => e = .returned (.int .i64 (Lib.compareBytes a.data.toList b.data.toList)) ∧ w' = w) : ExtOK m P f (ext2 .cmp) := by
  refine ⟨hf, fun cs K args h Q hb w0 ρ w vs R hv => ?_⟩
  obtain ⟨a, b, v, rfl, he, hq⟩ := ext2_run hb
  obtain ⟨x, y, rfl, hx, hy⟩ := vrs_two hv
  unfold extE at he
  split at he
  · rename_i h1 _; cases h1
  · rename_i h1 _; cases h1
  · rename_i h1 _; cases h1
  · rename_i s c _ h1
    injection h1 with h1 h2; injection h2 with h2 _
    have := argE_str h1; subst this
    have := argE_str h2; subst this
    obtain ⟨bs, rfl, rfl⟩ := vr_str hx
    obtain ⟨bc, rfl, rfl⟩ := vr_str hy
    cases he
    refine (hc bs bc w).mono ?_
    rintro e w' ⟨rfl, rfl⟩
    exact ⟨_, ρ, _, h, rfl, Ext.refl _, R, .int _ _, hq⟩
  · cases he
end Lg
