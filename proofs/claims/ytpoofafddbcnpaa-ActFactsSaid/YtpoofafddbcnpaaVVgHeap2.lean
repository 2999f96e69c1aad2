import Derived.Test.YtpoofafddbcnpaaVVgLib
/- Looking into blocks that stand behind a heap. -/
namespace Vg
open Go Lg
variable {h l : VHeap} {k : Nat} {x : VBlk}
theorem ap_get0 : (h ++ l)[h.length]? = l[0]? := by rw [List.getElem?_append_right (Nat.le_refl _), Nat.sub_self]
theorem ap_get : (h ++ l)[h.length + k]? = l[k]? := by rw [List.getElem?_append_right (Nat.le_add_right _ _), Nat.add_sub_cancel_left]
theorem ap_set0 : (h ++ l).set h.length x = h ++ l.set 0 x := by rw [List.set_append_right _ _ (Nat.le_refl _), Nat.sub_self]
theorem ap_set : (h ++ l).set (h.length + k) x = h ++ l.set k x := by rw [List.set_append_right _ _ (Nat.le_add_right _ _), Nat.add_sub_cancel_left]
theorem ap_take : (h ++ l).take h.length = h := List.take_left ..
theorem ap_low {n : Nat} {b : VBlk} (hn : h[n]? = some b) : (h ++ l)[n]? = some b := by
  rw [List.getElem?_append_left (by have := (List.getElem?_eq_some_iff.1 hn).1; exact this)]; exact hn
theorem ap_sub : (h ++ l).length = h.length + l.length := List.length_append
theorem ap_le : h.length ≤ h.length + k := Nat.le_add_right _ _
theorem add_ne0 {a b : Nat} : (a + (b + 1) = a) = False := eq_false (by omega)
theorem ne_add0 {a b : Nat} : (a = a + (b + 1)) = False := eq_false (by omega)
theorem thenV_congr1 {f : VEnv → VHeap → Option (Out × VEnv × VHeap)} {x y : Out × VEnv × VHeap} (h : x = y) : thenV f x = thenV f y := by rw [h]
end Vg
/- More on blocks behind a heap. -/
namespace Vg
open Go Lg
variable {h l : VHeap} {k : Nat} {x : VBlk}
/-- Slices in blocks are read whole by a pure function. -/
theorem call_snap2 {p : VProg} {f : FuncId} {fn : VFunc} {args as : List VV} {v : VV} {lo : Nat} (hp : p f = some fn) (hpu : fn.pure = true) (hraw : fn.raw = false) (hs : snapL h args = some as) (hs2 : snapL h as = some as) (hpl : v.plain = true)
    (hE : callVL p lo f as h = some (v, h)) : callVL p lo f args h = some (v, h) := by
  obtain ⟨K, hK⟩ := callVL_some.1 hE
  refine callVL_some.2 ⟨K, ?_⟩
  cases K with
  | zero => cases hK
  | succ K =>
    rw [callV_W] at hK ⊢
    simp only [callW, hp, hpu, hraw, Bool.not_false, and_self, if_true, hs, hs2] at hK ⊢
    generalize (if lowL 0 as = true then bodyV (callV p K) 0 (K + 1) fn as [] else bodyV (callV p K) h.length (K + 1) fn as h) = r at hK ⊢
    cases r with
    | none => cases hK
    | some x =>
      obtain ⟨u, h2⟩ := x
      simp only at hK ⊢
      split at hK
      · cases hK
        simp only [hpl, or_true, if_true]
      · cases hK
end Vg
