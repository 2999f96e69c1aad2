import Derived.Test.YtpoofafddbcnpaaVH4
namespace Vg.G3
open Go Lg
set_option linter.unusedSimpArgs false
set_option linter.unusedVariables false
set_option maxRecDepth 10000
set_option maxHeartbeats 4000000
attribute [local congr] bind_congr1
attribute [local go_sem] act_Copy_r0 act_Copy_r1 act_Copy_r1_d act_Copy_f act_Copy_v
def cpW (w : Wd) (n : Nat) : List VV := [.int .i64 w.sl, .hs (n + 3) 0 w.pl.length 1, .hs (n + 5) 0 w.sn.length 1, .hs (n + 7) 0 w.sp.length 1]
def cpH (w : Wd) (n : Nat) : VHeap := [.cells true (fW w), .dead, .dead, .cells true (w.pl.map fI).flatten, .dead, .cells true (w.sn.map fB).flatten, .dead, .cells true (w.sp.map fI).flatten, .cells true (cpW w n)]
theorem Copy_spec (w : Wd) (h1 : 1 ≤ w.pl.length) (h2 : 1 ≤ w.sn.length) (h3 : 1 ≤ w.sp.length) (b1 : w.pl.length ≤ 1000) (b2 : w.sn.length ≤ 1000) (b3 : w.sp.length ≤ 1000) (lo : Nat) (h : VHeap) (hlo : lo ≤ h.length) :
    callVL vp lo n_act_Copy [.agg (fW w)] h = some (.agg (cpW w h.length), h ++ cpH w h.length) := by
  have key := call_body (p := vp) (lo := lo) (h := h) (f := n_act_Copy) (fn := act_Copy_v) (args := [.agg (fW w)]) (P := fun r => r = (VV.agg (cpW w h.length), h ++ cpH w h.length)) rfl (.inr rfl) rfl ?_
  · obtain ⟨r, hr, rfl⟩ := key; exact hr
  have hlo' : ∀ k, lo ≤ h.length + k := fun k => Nat.le_trans hlo (Nat.le_add_right _ _)
  have hfI : ∀ l : List Int, (l.map fI).flatten.all scal = true := fun l => all_flat fun r hr => by obtain ⟨w, _, rfl⟩ := List.mem_map.1 hr; rfl
  have hfB : ∀ l : List Bool, (l.map fB).flatten.all scal = true := fun l => all_flat fun r hr => by obtain ⟨w, _, rfl⟩ := List.mem_map.1 hr; rfl
  have e1 : w.pl.map fI ≠ [] := by intro e; rw [List.map_eq_nil_iff] at e; rw [e] at h1; exact absurd h1 (by decide)
  have e2 : w.sn.map fB ≠ [] := by intro e; rw [List.map_eq_nil_iff] at e; rw [e] at h2; exact absurd h2 (by decide)
  have e3 : w.sp.map fI ≠ [] := by intro e; rw [List.map_eq_nil_iff] at e; rw [e] at h3; exact absurd h3 (by decide)
  have c1 : ∀ l : VHeap, callVL vp lo n_slices_Clone_intint [.list .s (w.pl.map fI)] (h ++ l) = some (.hs (h.length + (l.length + 1)) 0 w.pl.length 1, h ++ (l ++ [.dead, .cells true (w.pl.map fI).flatten])) := fun l => by
    have := cloneM_call (p := vp) (f := n_slices_Clone_intint) (pu := false) (es := 1) (bytes := 8) (lo := lo) (rows := w.pl.map fI) (h := h ++ l) rfl (by rw [List.all_eq_true]; intro r hr; obtain ⟨w, _, rfl⟩ := List.mem_map.1 hr; rfl) (hfI _) (by rw [List.length_map]; omega) (by rw [List.length_append]; exact Nat.le_trans hlo (Nat.le_add_right _ _))
    rw [this, if_neg e1, List.length_map, List.length_append, List.append_assoc, Nat.add_assoc]
  have c2 : ∀ l : VHeap, callVL vp lo n_slices_Clone_boolbool [.list .s (w.sn.map fB)] (h ++ l) = some (.hs (h.length + (l.length + 1)) 0 w.sn.length 1, h ++ (l ++ [.dead, .cells true (w.sn.map fB).flatten])) := fun l => by
    have := cloneM_call (p := vp) (f := n_slices_Clone_boolbool) (pu := false) (es := 1) (bytes := 1) (lo := lo) (rows := w.sn.map fB) (h := h ++ l) rfl (by rw [List.all_eq_true]; intro r hr; obtain ⟨w, _, rfl⟩ := List.mem_map.1 hr; rfl) (hfB _) (by rw [List.length_map]; omega) (by rw [List.length_append]; exact Nat.le_trans hlo (Nat.le_add_right _ _))
    rw [this, if_neg e2, List.length_map, List.length_append, List.append_assoc, Nat.add_assoc]
  have c3 : ∀ l : VHeap, callVL vp lo n_slices_Clone_intint [.list .s (w.sp.map fI)] (h ++ l) = some (.hs (h.length + (l.length + 1)) 0 w.sp.length 1, h ++ (l ++ [.dead, .cells true (w.sp.map fI).flatten])) := fun l => by
    have := cloneM_call (p := vp) (f := n_slices_Clone_intint) (pu := false) (es := 1) (bytes := 8) (lo := lo) (rows := w.sp.map fI) (h := h ++ l) rfl (by rw [List.all_eq_true]; intro r hr; obtain ⟨w, _, rfl⟩ := List.mem_map.1 hr; rfl) (hfI _) (by rw [List.length_map]; omega) (by rw [List.length_append]; exact Nat.le_trans hlo (Nat.le_add_right _ _))
    rw [this, if_neg e3, List.length_map, List.length_append, List.append_assoc, Nat.add_assoc]
  simp -implicitDefEqProofs only [go_sem, ↓reduceIte, reduceCtorEq, Int.reduceLT, Int.reduceLE, Int.reduceToNat, Nat.reduceAdd, Nat.reduceMul, Nat.reduceLeDiff, Nat.reduceLT, Nat.reduceSub, Int.reduceNeg, Int.reduceEq, Int.reduceBEq, Int.reduceBNe, Nat.reduceEqDiff, ap_get0, ap_get, ap_set0, ap_set, ap_take, ap_sub, ap_le, List.append_assoc, Nat.add_assoc, Nat.add_lt_add_iff_left, Nat.lt_add_right_iff_pos, fW, c1, c2, c3, hlo', cpW, cpH]
end Vg.G3
