/- Rows in a block that is written. -/
import Derived.Test.YtpclbojoknhnlaaDoorVVgTop
namespace Vg
open Go Lg
variable {es i j d : Nat} {rows : List (List VV)} {row vs : List VV}
theorem flat_take : ∀ (rows : List (List VV)) (i : Nat), (∀ r ∈ rows, r.length = es) → rows.flatten.take (i * es) = (rows.take i).flatten
  | rows, 0, _ => by simp
  | [], i + 1, _ => by simp
  | r :: rows, i + 1, h => by
    have hr := h r (by simp)
    rw [List.flatten_cons, List.take_succ_cons, List.flatten_cons, ← flat_take rows i fun r hr => h r (by simp [hr]), Nat.succ_mul, Nat.add_comm (i * es), ← hr, List.take_length_add_append]
end Vg
