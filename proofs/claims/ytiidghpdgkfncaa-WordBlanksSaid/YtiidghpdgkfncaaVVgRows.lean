/- Rows in a block that is written. -/
import Derived.Test.YtiidghpdgkfncaaVVgTop
namespace Vg
open Go Lg
variable {es i j d : Nat} {rows : List (List VV)} {row vs : List VV}
theorem flat_len (h : ∀ r ∈ rows,r.length = es) : rows.flatten.length = rows.length * es := by
  induction rows with
  | nil => simp
  | cons r rows ih =>
    rw [List.flatten_cons,List.length_append,h r (by simp),ih fun r hr => h r (by simp [hr]),List.length_cons,Nat.succ_mul,Nat.add_comm]
theorem drop_row (hrow : rows[i]? = some row) : rows.drop i = row :: rows.drop (i + 1) := by
  obtain ⟨h1,h2⟩ := List.getElem?_eq_some_iff.1 hrow
  rw [List.drop_eq_getElem_cons h1,h2]
theorem flat_set (h : ∀ r ∈ rows,r.length = es) (hrow : rows[i]? = some row) (hd : d + vs.length ≤ es) : vsplice rows.flatten (i * es + d) vs = (rows.set i (vsplice row d vs)).flatten := by
  have hr := h row (List.mem_of_getElem? hrow)
  have hi := lt_of_getElem? hrow
  have e : rows = rows.take i ++ row :: rows.drop (i + 1) := by rw [← drop_row hrow,List.take_append_drop]
  have hl : (rows.take i).flatten.length = i * es := by
    rw [flat_len fun r hr => h r (List.mem_of_mem_take hr),List.length_take,Nat.min_eq_left (by omega)]
  have e2 : rows.set i (vsplice row d vs) = rows.take i ++ vsplice row d vs :: rows.drop (i + 1) := by
    rw [List.set_eq_take_append_cons_drop,if_pos hi]
  rw [e2,List.flatten_append,List.flatten_cons]
  have e3 : rows.flatten = (rows.take i).flatten ++ (row ++ (rows.drop (i + 1)).flatten) := by
    conv => lhs; rw [e]
    rw [List.flatten_append,List.flatten_cons]
  rw [e3]
  unfold vsplice
  have h1 : d ≤ row.length := by omega
  have h2 : d + vs.length ≤ row.length := by omega
  rw [← hl,Nat.add_assoc,List.take_length_add_append,List.drop_length_add_append,List.take_append_of_le_length h1,List.drop_append_of_le_length h2]
  simp only [List.append_assoc]
theorem chunk_flat : ∀ (rows : List (List VV)),(∀ r ∈ rows,r.length = es) → chunk es rows.length rows.flatten = rows
  | [],_ => rfl
  | r :: rows,h => by
    have hr := h r (by simp)
    simp only [List.length_cons,chunk,List.flatten_cons]
    rw [← hr,List.take_left,List.drop_left,hr,chunk_flat rows fun r hr => h r (by simp [hr])]
theorem scal_show {v : VV} (h : scal v = true) : v.sh.ow = v := by cases v <;> first | rfl | cases h
theorem scal_fz {h : VHeap} {base k : Nat} {v : VV} (hs : scal v = true) : fzN h base (k + 1) v = some v := by cases v <;> first | rfl | cases hs
theorem scals_show {cs : List VV} (h : cs.all scal = true) : (cs.map fun c => c.sh.ow) = cs := by
  rw [List.all_eq_true] at h
  conv => rhs; rw [← List.map_id cs]
  exact List.map_congr_left fun v hv => scal_show (h v hv)
theorem scals_fz {h : VHeap} {base k : Nat} : ∀ {cs : List VV},cs.all scal = true → cs.mapM (fzN h base (k + 1)) = some cs
  | [],_ => rfl
  | c :: cs,hc => by
    simp only [List.all_cons,Bool.and_eq_true] at hc
    rw [mapM_cons',scal_fz hc.1,Option.bind_some,scals_fz hc.2]; rfl
theorem scals_low {k : Nat} {cs : List VV} (h : cs.all scal = true) : lowL k cs = true := lowL_of fun v hv => scal_low (List.all_eq_true.1 h v hv)
theorem all_flat {rows : List (List VV)} (h : ∀ r ∈ rows,r.all scal = true) : rows.flatten.all scal = true := by
  rw [List.all_eq_true]
  intro v hv
  obtain ⟨r,hr,hv⟩ := List.mem_flatten.1 hv
  exact List.all_eq_true.1 (h r hr) v hv
theorem fz_hs {h : VHeap} {base n len : Nat} {rows : List (List VV)} (hb : base ≤ n) (hn : h[n]? = some (.cells true rows.flatten)) (hl : len = rows.length) (hr : ∀ r ∈ rows,r.length = es) (hs : ∀ r ∈ rows,r.all scal = true) :
    fz h base (.hs n 0 len es) = some (.list .s rows) := by
  subst hl
  have h1 := flat_len hr
  have h2 := all_flat hs
  unfold fz
  rw [fzN]
  simp only [hb,if_true,hn,Nat.zero_add,h1,Nat.le_refl,List.drop_zero]
  rw [← h1,List.take_length,scals_fz h2]
  simp only [scals_low h2,if_true]
  rw [chunk_flat rows hr]
end Vg
