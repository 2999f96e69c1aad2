/- Looking into blocks that stand behind a heap. -/
import Derived.Test.YtpoofafddbcnpaaVVgLib
namespace Vg
open Go Lg
variable {h l : VHeap} {k : Nat} {x : VBlk}
theorem ap_get0 : (h ++ l)[h.length]? = l[0]? := by rw [List.getElem?_append_right (Nat.le_refl _),Nat.sub_self]
theorem ap_get : (h ++ l)[h.length + k]? = l[k]? := by rw [List.getElem?_append_right (Nat.le_add_right _ _),Nat.add_sub_cancel_left]
theorem ap_set0 : (h ++ l).set h.length x = h ++ l.set 0 x := by rw [List.set_append_right _ _ (Nat.le_refl _),Nat.sub_self]
theorem ap_set : (h ++ l).set (h.length + k) x = h ++ l.set k x := by rw [List.set_append_right _ _ (Nat.le_add_right _ _),Nat.add_sub_cancel_left]
theorem ap_take : (h ++ l).take h.length = h := List.take_left ..
theorem ap_sub : (h ++ l).length = h.length + l.length := List.length_append
theorem ap_le : h.length ≤ h.length + k := Nat.le_add_right _ _
end Vg
