import Derived.Test.YtiidghpdgkfncaaVB5
namespace Vg.G2
open Go Lg
set_option linter.unusedSimpArgs false
set_option maxRecDepth 10000
set_option maxHeartbeats 1000000
attribute [local congr] bind_congr1
attribute [local go_sem] gantkeep4_texts_r0 gantkeep4_texts_r1 gantkeep4_texts_r2 gantkeep4_texts_r3 gantkeep4_texts_r4 gantkeep4_texts_r5 gantkeep4_texts_r6 gantkeep4_texts_r7 gantkeep4_texts_f gantkeep4_texts_v

theorem drop_row' {α : Type} {xs : List α} {i : Nat} {x : α} (h : xs[i]? = some x) : xs.drop i = x :: xs.drop (i + 1) := by
  obtain ⟨h1,h2⟩ := List.getElem?_eq_some_iff.1 h
  rw [List.drop_eq_getElem_cons h1,h2]
def zt (w : Wd) : Wd := ⟨w.kind,0,w.text⟩
theorem fW_scal {ws : List Wd} : ∀ r ∈ ws.map fW,r.all scal = true := fun r hr => by obtain ⟨w,_,rfl⟩ := List.mem_map.1 hr; rfl
theorem flen {α : Type} {es : Nat} {F : α → List VV} (hF : ∀ x,(F x).length = es) (xs : List α) : ∀ r ∈ xs.map F,r.length = es := fun r hr => by obtain ⟨w,_,rfl⟩ := List.mem_map.1 hr; exact hF w

theorem texts_spec (ws : List Wd) (hl : ws.length ≤ 4096) (lo : Nat) (h : VHeap) : callVL vp lo n_gantkeep4_texts [.list .s (ws.map fW)] h = some (.list .s ((ws.map zt).map fW),h) := by
  refine call_valE (fn := gantkeep4_texts_v) rfl rfl rfl rfl rfl ?_ lo h
  obtain ⟨P,hP⟩ : ∃ P : VV → Prop,P = fun w : VV => w = .list .s ((ws.map zt).map fW) := ⟨_,rfl⟩
  have hP1 : P (.list .s ((ws.map zt).map fW)) := by subst hP; rfl
  have hP2 : (fun r : VV × VHeap => r.1 = .list .s ((ws.map zt).map fW)) = fun r => P r.1 := by subst hP; rfl
  rw [hP2]
  clear hP hP2
  have hC := fun lo h (hlo : lo ≤ List.length h) => cloneM_call (p := vp) (f := n_slices_Clone_gantrywordWord) (pu := false) (es := 3) (bytes := 32) (lo := lo) (rows := ws.map fW) (h := h) rfl (all_len fW_len ws) (all_flat fW_scal) (by rw [List.length_map]; omega) hlo
  have hC0 := hC 0 [] (Nat.le_refl _)
  cases hw : ws with
  | nil =>
    subst hw
    simp only [List.map_nil,if_true] at hC0
    simp -implicitDefEqProofs only [go_sem,↓reduceIte,reduceCtorEq,Int.reduceLT,Int.reduceLE,Int.reduceToNat,Nat.reduceAdd,Nat.reduceMul,Nat.reduceLeDiff,Nat.reduceLT,Nat.reduceSub,Int.reduceNeg,Int.reduceEq,Int.reduceBEq,Int.reduceBNe,Nat.reduceEqDiff,hC0]
    rw [Sat_bind,loopV_eq]
    simp -implicitDefEqProofs only [gantkeep4_texts_b0,go_sem,↓reduceIte,reduceCtorEq,Int.reduceLT,Int.reduceLE,Int.reduceToNat,Nat.reduceAdd,Nat.reduceMul,Nat.reduceLeDiff,Nat.reduceLT,Nat.reduceSub,Int.reduceNeg,Int.reduceEq,Int.reduceBEq,Int.reduceBNe,Nat.reduceEqDiff,Int.lt_irrefl]
    exact hP1
  | cons w0 ws0 =>
    have hne : ws.map fW ≠ [] := by rw [hw]; simp
    rw [if_neg hne] at hC0
    simp only [List.length_nil,Nat.zero_add,List.nil_append,List.length_map] at hC0
    rw [← hw]
    simp -implicitDefEqProofs only [go_sem,↓reduceIte,reduceCtorEq,Int.reduceLT,Int.reduceLE,Int.reduceToNat,Nat.reduceAdd,Nat.reduceMul,Nat.reduceLeDiff,Nat.reduceLT,Nat.reduceSub,Int.reduceNeg,Int.reduceEq,Int.reduceBEq,Int.reduceBNe,Nat.reduceEqDiff,hC0]
    rw [Sat_bind]
    refine loop_up (I := fun i env h' => env = [.undef,.undef,.undef,.hs 1 0 ws.length 3,.undef,.undef,.undef,.undef,.int .i64 ((ws.length : Nat) : Int),.int .i64 ((i : Nat) : Int),.undef,.undef,.undef,.undef,.undef,.undef,.undef,.undef] ∧ h' = [.dead,.cells true ((((ws.take i).map zt) ++ ws.drop i).map fW).flatten]) ws.length ?_ ?_ (Nat.zero_le _) ⟨by simp -implicitDefEqProofs only [go_sem,↓reduceIte,reduceCtorEq,Int.reduceLT,Int.reduceLE,Int.reduceToNat,Nat.reduceAdd,Nat.reduceMul,Nat.reduceLeDiff,Nat.reduceLT,Nat.reduceSub,Int.reduceNeg,Int.reduceEq,Int.reduceBEq,Int.reduceBNe,Nat.reduceEqDiff],by simp only [List.take_zero,List.map_nil,List.nil_append,List.drop_zero]⟩
    · rintro i env h' hi ⟨rfl,rfl⟩
      obtain ⟨w,hw⟩ := get_some hi
      have hi' : (i : Int) < (ws.length : Int) := by omega
      have hw1 := wrap_succ (i := i) (by omega)
      have hget : ((((ws.take i).map zt) ++ ws.drop i).map fW)[i]? = some (fW w) := by
        rw [List.getElem?_map,List.getElem?_append_right (by rw [List.length_map,List.length_take]; omega),drop_row' hw]
        simp [Nat.min_eq_left (Nat.le_of_lt hi)]
      have hlen := flen fW_len (((ws.take i).map zt) ++ ws.drop i)
      have hset := flat_set (d := 1) (vs := [VV.int .i64 0]) hlen hget (by decide)
      have hfl := flat_len hlen
      rw [List.length_map,List.length_append,List.length_map,List.length_take,List.length_drop] at hfl
      have hfl' : i * 3 + 1 + 1 ≤ ((((ws.take i).map zt) ++ ws.drop i).map fW).flatten.length := by rw [hfl]; omega
      have hnx : ((((ws.take i).map zt) ++ ws.drop i).map fW).set i (vsplice (fW w) 1 [VV.int .i64 0]) = (((ws.take (i + 1)).map zt) ++ ws.drop (i + 1)).map fW := by
        rw [drop_row' hw,take_succ_map hw,List.map_append,List.map_append,List.map_append,List.map_append,List.map_cons,List.set_append_right _ _ (by rw [List.length_map,List.length_map,List.length_take]; omega)]
        simp [Nat.min_eq_left (Nat.le_of_lt hi),fW,zt,vsplice]
      rw [hnx] at hset
      simp only [vsplice,List.length_cons,List.length_nil,Nat.zero_add] at hset
      generalize (((ws.take i).map zt) ++ ws.drop i).map fW = rows at *
      simp -implicitDefEqProofs only [gantkeep4_texts_b0,go_sem,↓reduceIte,reduceCtorEq,Int.reduceLT,Int.reduceLE,Int.reduceToNat,Nat.reduceAdd,Nat.reduceMul,Nat.reduceLeDiff,Nat.reduceLT,Nat.reduceSub,Int.reduceNeg,Int.reduceEq,Int.reduceBEq,Int.reduceBNe,Nat.reduceEqDiff,hi,hi',hw1,hfl',hset]
    · rintro env h' ⟨rfl,rfl⟩
      have hf := fz_hs (es := 3) (h := [VBlk.dead,.cells true ((((ws.take ws.length).map zt) ++ ws.drop ws.length).map fW).flatten]) (base := 0) (n := 1) (len := ws.length) (rows := (((ws.take ws.length).map zt) ++ ws.drop ws.length).map fW) (Nat.zero_le _) rfl (by simp) (flen fW_len _) fW_scal
      have he : ((ws.take ws.length).map zt) ++ ws.drop ws.length = ws.map zt := by simp
      rw [he] at hf ⊢
      simp -implicitDefEqProofs only [gantkeep4_texts_b0,go_sem,↓reduceIte,reduceCtorEq,Int.reduceLT,Int.reduceLE,Int.reduceToNat,Nat.reduceAdd,Nat.reduceMul,Nat.reduceLeDiff,Nat.reduceLT,Nat.reduceSub,Int.reduceNeg,Int.reduceEq,Int.reduceBEq,Int.reduceBNe,Nat.reduceEqDiff,Int.lt_irrefl,hf]
      exact hP1
end Vg.G2
