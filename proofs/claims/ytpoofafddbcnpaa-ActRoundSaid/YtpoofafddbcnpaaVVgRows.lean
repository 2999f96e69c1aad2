/- Rows in a block that is written. -/
import Derived.Test.YtpoofafddbcnpaaVVgTop
namespace Vg
open Go Lg
variable {es i j d : Nat} {rows : List (List VV)} {row vs : List VV}
theorem flat_len (h : ∀ r ∈ rows,r.length = es) : rows.flatten.length = rows.length * es := by
  induction rows with
  | nil => simp
  | cons r rows ih =>
    rw [List.flatten_cons,List.length_append,h r (by simp),ih fun r hr => h r (by simp [hr]),List.length_cons,Nat.succ_mul,Nat.add_comm]
theorem drop_row (hrow : rows[i]? = some row) : rows.drop i = row :: rows.drop (i + 1) := by
  obtain ⟨h1,h2⟩ := List.getElem?_eq_some_iff.1 hrow
  rw [List.drop_eq_getElem_cons h1,h2]
theorem flat_set (h : ∀ r ∈ rows,r.length = es) (hrow : rows[i]? = some row) (hd : d + vs.length ≤ es) : vsplice rows.flatten (i * es + d) vs = (rows.set i (vsplice row d vs)).flatten := by
  have hr := h row (List.mem_of_getElem? hrow)
  have hi := lt_of_getElem? hrow
  have e : rows = rows.take i ++ row :: rows.drop (i + 1) := by rw [← drop_row hrow,List.take_append_drop]
  have hl : (rows.take i).flatten.length = i * es := by
    rw [flat_len fun r hr => h r (List.mem_of_mem_take hr),List.length_take,Nat.min_eq_left (by omega)]
  have e2 : rows.set i (vsplice row d vs) = rows.take i ++ vsplice row d vs :: rows.drop (i + 1) := by
    rw [List.set_eq_take_append_cons_drop,if_pos hi]
  rw [e2,List.flatten_append,List.flatten_cons]
  have e3 : rows.flatten = (rows.take i).flatten ++ (row ++ (rows.drop (i + 1)).flatten) := by
    conv => lhs; rw [e]
    rw [List.flatten_append,List.flatten_cons]
  rw [e3]
  unfold vsplice
  have h1 : d ≤ row.length := by omega
  have h2 : d + vs.length ≤ row.length := by omega
  rw [← hl,Nat.add_assoc,List.take_length_add_append,List.drop_length_add_append,List.take_append_of_le_length h1,List.drop_append_of_le_length h2]
  simp only [List.append_assoc]
theorem scal_show {v : VV} (h : scal v = true) : v.sh.ow = v := by cases v <;> first | rfl | cases h
theorem scals_show {cs : List VV} (h : cs.all scal = true) : (cs.map fun c => c.sh.ow) = cs := by
  rw [List.all_eq_true] at h
  conv => rhs; rw [← List.map_id cs]
  exact List.map_congr_left fun v hv => scal_show (h v hv)
theorem all_flat {rows : List (List VV)} (h : ∀ r ∈ rows,r.all scal = true) : rows.flatten.all scal = true := by
  rw [List.all_eq_true]
  intro v hv
  obtain ⟨r,hr,hv⟩ := List.mem_flatten.1 hv
  exact List.all_eq_true.1 (h r hr) v hv
end Vg
