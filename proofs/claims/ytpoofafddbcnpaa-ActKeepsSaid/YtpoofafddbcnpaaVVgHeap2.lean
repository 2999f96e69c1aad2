/- More on blocks behind a heap. -/
import Derived.Test.YtpoofafddbcnpaaVVgHeap
namespace Vg
open Go Lg
variable {h l : VHeap} {k : Nat} {x : VBlk}
/-- Slices in blocks are read whole by a pure function. -/
theorem call_snap2 {p : VProg} {f : FuncId} {fn : VFunc} {args as : List VV} {v : VV} {lo : Nat} (hp : p f = some fn) (hpu : fn.pure = true) (hraw : fn.raw = false) (hs : snapL h args = some as) (hs2 : snapL h as = some as) (hpl : v.plain = true)
    (hE : callVL p lo f as h = some (v, h)) : callVL p lo f args h = some (v, h) := by
  obtain ⟨K, hK⟩ := callVL_some.1 hE
  refine callVL_some.2 ⟨K, ?_⟩
  cases K with
  | zero => cases hK
  | succ K =>
    rw [callV_W] at hK ⊢
    simp only [callW, hp, hpu, hraw, Bool.not_false, and_self, if_true, hs, hs2] at hK ⊢
    generalize (if lowL 0 as = true then bodyV (callV p K) 0 (K + 1) fn as [] else bodyV (callV p K) h.length (K + 1) fn as h) = r at hK ⊢
    cases r with
    | none => cases hK
    | some x =>
      obtain ⟨u, h2⟩ := x
      simp only at hK ⊢
      split at hK
      · cases hK
        simp only [hpl, or_true, if_true]
      · cases hK
end Vg
