import Derived.Test.YtpoofafddbcnpaaVH3
namespace Vg.G3
open Go Lg
set_option linter.unusedSimpArgs false
set_option linter.unusedVariables false
set_option maxRecDepth 10000
set_option maxHeartbeats 4000000
attribute [local congr] bind_congr1
attribute [local go_sem] act_may_r0 act_may_r1 act_may_r1_d act_may_r2 act_may_r3 act_may_r4 act_may_r5 act_may_r6 act_may_r7 act_may_r8 act_may_r9 act_may_r10 act_may_r11 act_may_r12 act_may_r13 act_may_r14 act_may_r15 act_may_r16 act_may_r17 act_may_r18 act_may_r19 act_may_r20 act_may_r21 act_may_r22 act_may_r23 act_may_r24 act_may_r25 act_may_r26 act_may_r27 act_may_r28 act_may_f act_may_v

def hereF (w : Wd) (s : Stp) : Prop := targetF w s ≠ -1 ∧ gI w.sp s.a = targetF w s
/-- What a step whose arm,part and slot exist asks for. -/
def mayF (w : Wd) (s : Stp) : Prop :=
  (s.k = 0 → ¬ (0 ≤ s.p ∧ 0 ≤ holdsF w s.a) ∧ targetF w s ≠ -1 ∧ ¬ hereF w s ∧ targetF w s ∉ w.sp) ∧
  (s.k = 1 ∨ s.k = 3 → ¬ 0 ≤ holdsF w s.a ∧ hereF w s) ∧
  (s.k = 1 → gB w.sn s.p = true) ∧ (s.k = 3 → gB w.sn s.p = false) ∧
  (s.k = 2 → 0 ≤ holdsF w s.a ∧ hereF w s ∧ ¬ 0 ≤ inF w s.s)
theorem may_spec {w : Wd} (hs : Small w) (s : Stp) (ha0 : 0 ≤ s.a) (ha : s.a < w.sp.length) (hp : s.p < w.pl.length) (hp0 : s.k = 1 ∨ s.k = 3 → 0 ≤ s.p) : ∃ e : Int,(e = 0 ↔ mayF w s) ∧ ∀ lo h,callVL vp lo n_act_may [.agg (fW w),.agg (fS s)] h = some (.int .i64 e,h) := by
  obtain ⟨P,hP⟩ : ∃ P : VV → Prop,P = fun v : VV => ∃ e : Int,(e = 0 ↔ mayF w s) ∧ v = .int .i64 e := ⟨_,rfl⟩
  have key := call_val (p := vp) (f := n_act_may) (fn := act_may_v) (args := [.agg (fW w),.agg (fS s)]) (P := P) rfl rfl rfl rfl rfl ?_
  · obtain ⟨v,hv,hc⟩ := key; subst hP; obtain ⟨e,he,rfl⟩ := hv; exact ⟨e,he,hc⟩
  have hP0 : mayF w s → P (.int .i64 0) := fun h => by subst hP; exact ⟨0,⟨fun _ => h,fun _ => rfl⟩,rfl⟩
  have hP1 : ∀ e : Int,e ≠ 0 → ¬ mayF w s → P (.int .i64 e) := fun e he h => by subst hP; exact ⟨e,⟨fun h0 => absurd h0 he,fun h0 => absurd h0 h⟩,rfl⟩
  clear hP
  have hT := target_spec hs s
  have hH := Holds_spec hs s.a
  have hI := In_spec hs s.s
  have hsp := get_map (F := fI) (gI_get ha0 ha)
  have hC := Contains_i w.sp (targetF w s) (by have := hs.sp; omega)
  simp only [fI] at hsp
  simp only [fW,fS] at hT hH hI
  have hsn : s.k = 1 ∨ s.k = 3 → (w.sn.map fB)[s.p.toNat]? = some [VV.bool (gB w.sn s.p)] := fun h => get_map (F := fB) (gB_get (hp0 h) (by have := hs.sn; omega))
  unfold mayF hereF at hP0 hP1
  obtain ⟨k,a,p,q,t⟩ := s
  simp only at *
  generalize targetF w ⟨k,a,p,q,t⟩ = T at *
  generalize holdsF w a = H at *
  generalize inF w q = N at *
  generalize gI w.sp a = G at *
  by_cases k0 : k = 0
  · subst k0
    by_cases b1 : T = -1
    · by_cases b2 : 0 ≤ p
      · by_cases b3 : 0 ≤ H <;> simp -implicitDefEqProofs only [go_sem,↓reduceIte,reduceCtorEq,Int.reduceLT,Int.reduceLE,Int.reduceToNat,Nat.reduceAdd,Nat.reduceMul,Nat.reduceLeDiff,Nat.reduceLT,Nat.reduceSub,Int.reduceNeg,Int.reduceEq,Int.reduceBEq,Int.reduceBNe,Nat.reduceEqDiff,fW,fS,hT,hH,b1,b2,b3] <;> exact hP1 _ (by decide) (by simp [b1,b2,b3])
      · by_cases b3 : 0 ≤ H <;> simp -implicitDefEqProofs only [go_sem,↓reduceIte,reduceCtorEq,Int.reduceLT,Int.reduceLE,Int.reduceToNat,Nat.reduceAdd,Nat.reduceMul,Nat.reduceLeDiff,Nat.reduceLT,Nat.reduceSub,Int.reduceNeg,Int.reduceEq,Int.reduceBEq,Int.reduceBNe,Nat.reduceEqDiff,fW,fS,hT,hH,b1,b2,b3] <;> exact hP1 _ (by decide) (by simp [b1,b2,b3])
    by_cases b4 : G = T
    · by_cases b2 : 0 ≤ p
      · by_cases b3 : 0 ≤ H <;> simp -implicitDefEqProofs only [go_sem,↓reduceIte,reduceCtorEq,Int.reduceLT,Int.reduceLE,Int.reduceToNat,Nat.reduceAdd,Nat.reduceMul,Nat.reduceLeDiff,Nat.reduceLT,Nat.reduceSub,Int.reduceNeg,Int.reduceEq,Int.reduceBEq,Int.reduceBNe,Nat.reduceEqDiff,fW,fS,hT,hH,hsp,ha0,b1,b2,b3,b4] <;> exact hP1 _ (by decide) (by simp [b1,b2,b3,b4])
      · by_cases b3 : 0 ≤ H <;> simp -implicitDefEqProofs only [go_sem,↓reduceIte,reduceCtorEq,Int.reduceLT,Int.reduceLE,Int.reduceToNat,Nat.reduceAdd,Nat.reduceMul,Nat.reduceLeDiff,Nat.reduceLT,Nat.reduceSub,Int.reduceNeg,Int.reduceEq,Int.reduceBEq,Int.reduceBNe,Nat.reduceEqDiff,fW,fS,hT,hH,hsp,ha0,b1,b2,b3,b4] <;> exact hP1 _ (by decide) (by simp [b1,b2,b3,b4])
    by_cases b5 : T ∈ w.sp
    · by_cases b2 : 0 ≤ p
      · by_cases b3 : 0 ≤ H <;> simp -implicitDefEqProofs only [go_sem,↓reduceIte,reduceCtorEq,Int.reduceLT,Int.reduceLE,Int.reduceToNat,Nat.reduceAdd,Nat.reduceMul,Nat.reduceLeDiff,Nat.reduceLT,Nat.reduceSub,Int.reduceNeg,Int.reduceEq,Int.reduceBEq,Int.reduceBNe,Nat.reduceEqDiff,fW,fS,hT,hH,hsp,ha0,hC,b1,b2,b3,b4,b5] <;> exact hP1 _ (by decide) (by simp [b1,b2,b3,b4,b5])
      · by_cases b3 : 0 ≤ H <;> simp -implicitDefEqProofs only [go_sem,↓reduceIte,reduceCtorEq,Int.reduceLT,Int.reduceLE,Int.reduceToNat,Nat.reduceAdd,Nat.reduceMul,Nat.reduceLeDiff,Nat.reduceLT,Nat.reduceSub,Int.reduceNeg,Int.reduceEq,Int.reduceBEq,Int.reduceBNe,Nat.reduceEqDiff,fW,fS,hT,hH,hsp,ha0,hC,b1,b2,b3,b4,b5] <;> exact hP1 _ (by decide) (by simp [b1,b2,b3,b4,b5])
    · by_cases b2 : 0 ≤ p
      · by_cases b3 : 0 ≤ H
        · simp -implicitDefEqProofs only [go_sem,↓reduceIte,reduceCtorEq,Int.reduceLT,Int.reduceLE,Int.reduceToNat,Nat.reduceAdd,Nat.reduceMul,Nat.reduceLeDiff,Nat.reduceLT,Nat.reduceSub,Int.reduceNeg,Int.reduceEq,Int.reduceBEq,Int.reduceBNe,Nat.reduceEqDiff,fW,fS,hT,hH,hsp,ha0,hC,b1,b2,b3,b4,b5]
          exact hP1 _ (by decide) (by simp [b1,b2,b3,b4,b5])
        · simp -implicitDefEqProofs only [go_sem,↓reduceIte,reduceCtorEq,Int.reduceLT,Int.reduceLE,Int.reduceToNat,Nat.reduceAdd,Nat.reduceMul,Nat.reduceLeDiff,Nat.reduceLT,Nat.reduceSub,Int.reduceNeg,Int.reduceEq,Int.reduceBEq,Int.reduceBNe,Nat.reduceEqDiff,fW,fS,hT,hH,hsp,ha0,hC,b1,b2,b3,b4,b5]
          exact hP0 (by simp [b1,b2,b3,b4,b5])
      · by_cases b3 : 0 ≤ H <;> simp -implicitDefEqProofs only [go_sem,↓reduceIte,reduceCtorEq,Int.reduceLT,Int.reduceLE,Int.reduceToNat,Nat.reduceAdd,Nat.reduceMul,Nat.reduceLeDiff,Nat.reduceLT,Nat.reduceSub,Int.reduceNeg,Int.reduceEq,Int.reduceBEq,Int.reduceBNe,Nat.reduceEqDiff,fW,fS,hT,hH,hsp,ha0,hC,b1,b2,b3,b4,b5] <;> exact hP0 (by simp [b1,b2,b3,b4,b5])
  by_cases k1 : k = 1
  · subst k1
    have hp' := hp0 (.inl rfl)
    have hsn := hsn (.inl rfl)
    generalize gB w.sn p = B at *
    by_cases b1 : T = -1
    · by_cases b3 : 0 ≤ H <;> simp -implicitDefEqProofs only [go_sem,↓reduceIte,reduceCtorEq,Int.reduceLT,Int.reduceLE,Int.reduceToNat,Nat.reduceAdd,Nat.reduceMul,Nat.reduceLeDiff,Nat.reduceLT,Nat.reduceSub,Int.reduceNeg,Int.reduceEq,Int.reduceBEq,Int.reduceBNe,Nat.reduceEqDiff,fW,fS,hT,hH,b1,b3] <;> exact hP1 _ (by decide) (by simp [b1,b3])
    by_cases b3 : 0 ≤ H
    · by_cases b4 : G = T <;> simp -implicitDefEqProofs only [go_sem,↓reduceIte,reduceCtorEq,Int.reduceLT,Int.reduceLE,Int.reduceToNat,Nat.reduceAdd,Nat.reduceMul,Nat.reduceLeDiff,Nat.reduceLT,Nat.reduceSub,Int.reduceNeg,Int.reduceEq,Int.reduceBEq,Int.reduceBNe,Nat.reduceEqDiff,fW,fS,hT,hH,hsp,ha0,b1,b3,b4] <;> exact hP1 _ (by decide) (by simp [b1,b3,b4])
    by_cases b4 : G = T
    · cases B
      · simp -implicitDefEqProofs only [go_sem,↓reduceIte,reduceCtorEq,Int.reduceLT,Int.reduceLE,Int.reduceToNat,Nat.reduceAdd,Nat.reduceMul,Nat.reduceLeDiff,Nat.reduceLT,Nat.reduceSub,Int.reduceNeg,Int.reduceEq,Int.reduceBEq,Int.reduceBNe,Nat.reduceEqDiff,fW,fS,hT,hH,hsp,ha0,b1,b3,b4,hsn,hp']
        exact hP1 _ (by decide) (by simp [b1,b3,b4])
      · simp -implicitDefEqProofs only [go_sem,↓reduceIte,reduceCtorEq,Int.reduceLT,Int.reduceLE,Int.reduceToNat,Nat.reduceAdd,Nat.reduceMul,Nat.reduceLeDiff,Nat.reduceLT,Nat.reduceSub,Int.reduceNeg,Int.reduceEq,Int.reduceBEq,Int.reduceBNe,Nat.reduceEqDiff,fW,fS,hT,hH,hsp,ha0,b1,b3,b4,hsn,hp']
        exact hP0 (by simp [b1,b3,b4])
    · simp -implicitDefEqProofs only [go_sem,↓reduceIte,reduceCtorEq,Int.reduceLT,Int.reduceLE,Int.reduceToNat,Nat.reduceAdd,Nat.reduceMul,Nat.reduceLeDiff,Nat.reduceLT,Nat.reduceSub,Int.reduceNeg,Int.reduceEq,Int.reduceBEq,Int.reduceBNe,Nat.reduceEqDiff,fW,fS,hT,hH,hsp,ha0,b1,b3,b4]
      exact hP1 _ (by decide) (by simp [b1,b3,b4])
  by_cases k3 : k = 3
  · subst k3
    have hp' := hp0 (.inr rfl)
    have hsn := hsn (.inr rfl)
    generalize gB w.sn p = B at *
    by_cases b1 : T = -1
    · by_cases b3 : 0 ≤ H <;> simp -implicitDefEqProofs only [go_sem,↓reduceIte,reduceCtorEq,Int.reduceLT,Int.reduceLE,Int.reduceToNat,Nat.reduceAdd,Nat.reduceMul,Nat.reduceLeDiff,Nat.reduceLT,Nat.reduceSub,Int.reduceNeg,Int.reduceEq,Int.reduceBEq,Int.reduceBNe,Nat.reduceEqDiff,fW,fS,hT,hH,b1,b3] <;> exact hP1 _ (by decide) (by simp [b1,b3])
    by_cases b3 : 0 ≤ H
    · by_cases b4 : G = T <;> simp -implicitDefEqProofs only [go_sem,↓reduceIte,reduceCtorEq,Int.reduceLT,Int.reduceLE,Int.reduceToNat,Nat.reduceAdd,Nat.reduceMul,Nat.reduceLeDiff,Nat.reduceLT,Nat.reduceSub,Int.reduceNeg,Int.reduceEq,Int.reduceBEq,Int.reduceBNe,Nat.reduceEqDiff,fW,fS,hT,hH,hsp,ha0,b1,b3,b4] <;> exact hP1 _ (by decide) (by simp [b1,b3,b4])
    by_cases b4 : G = T
    · cases B
      · simp -implicitDefEqProofs only [go_sem,↓reduceIte,reduceCtorEq,Int.reduceLT,Int.reduceLE,Int.reduceToNat,Nat.reduceAdd,Nat.reduceMul,Nat.reduceLeDiff,Nat.reduceLT,Nat.reduceSub,Int.reduceNeg,Int.reduceEq,Int.reduceBEq,Int.reduceBNe,Nat.reduceEqDiff,fW,fS,hT,hH,hsp,ha0,b1,b3,b4,hsn,hp']
        exact hP0 (by simp [b1,b3,b4])
      · simp -implicitDefEqProofs only [go_sem,↓reduceIte,reduceCtorEq,Int.reduceLT,Int.reduceLE,Int.reduceToNat,Nat.reduceAdd,Nat.reduceMul,Nat.reduceLeDiff,Nat.reduceLT,Nat.reduceSub,Int.reduceNeg,Int.reduceEq,Int.reduceBEq,Int.reduceBNe,Nat.reduceEqDiff,fW,fS,hT,hH,hsp,ha0,b1,b3,b4,hsn,hp']
        exact hP1 _ (by decide) (by simp [b1,b3,b4])
    · simp -implicitDefEqProofs only [go_sem,↓reduceIte,reduceCtorEq,Int.reduceLT,Int.reduceLE,Int.reduceToNat,Nat.reduceAdd,Nat.reduceMul,Nat.reduceLeDiff,Nat.reduceLT,Nat.reduceSub,Int.reduceNeg,Int.reduceEq,Int.reduceBEq,Int.reduceBNe,Nat.reduceEqDiff,fW,fS,hT,hH,hsp,ha0,b1,b3,b4]
      exact hP1 _ (by decide) (by simp [b1,b3,b4])
  by_cases k2 : k = 2
  · subst k2
    by_cases b1 : T = -1
    · by_cases b3 : 0 ≤ H <;> simp -implicitDefEqProofs only [go_sem,↓reduceIte,reduceCtorEq,Int.reduceLT,Int.reduceLE,Int.reduceToNat,Nat.reduceAdd,Nat.reduceMul,Nat.reduceLeDiff,Nat.reduceLT,Nat.reduceSub,Int.reduceNeg,Int.reduceEq,Int.reduceBEq,Int.reduceBNe,Nat.reduceEqDiff,fW,fS,hT,hH,b1,b3] <;> exact hP1 _ (by decide) (by simp [b1,b3])
    by_cases b3 : 0 ≤ H
    · by_cases b4 : G = T
      · by_cases b5 : 0 ≤ N
        · simp -implicitDefEqProofs only [go_sem,↓reduceIte,reduceCtorEq,Int.reduceLT,Int.reduceLE,Int.reduceToNat,Nat.reduceAdd,Nat.reduceMul,Nat.reduceLeDiff,Nat.reduceLT,Nat.reduceSub,Int.reduceNeg,Int.reduceEq,Int.reduceBEq,Int.reduceBNe,Nat.reduceEqDiff,fW,fS,hT,hH,hI,hsp,ha0,b1,b3,b4,b5]
          exact hP1 _ (by decide) (by simp [b1,b3,b4,b5])
        · simp -implicitDefEqProofs only [go_sem,↓reduceIte,reduceCtorEq,Int.reduceLT,Int.reduceLE,Int.reduceToNat,Nat.reduceAdd,Nat.reduceMul,Nat.reduceLeDiff,Nat.reduceLT,Nat.reduceSub,Int.reduceNeg,Int.reduceEq,Int.reduceBEq,Int.reduceBNe,Nat.reduceEqDiff,fW,fS,hT,hH,hI,hsp,ha0,b1,b3,b4,b5]
          exact hP0 (by simp [b1,b3,b4]; omega)
      · simp -implicitDefEqProofs only [go_sem,↓reduceIte,reduceCtorEq,Int.reduceLT,Int.reduceLE,Int.reduceToNat,Nat.reduceAdd,Nat.reduceMul,Nat.reduceLeDiff,Nat.reduceLT,Nat.reduceSub,Int.reduceNeg,Int.reduceEq,Int.reduceBEq,Int.reduceBNe,Nat.reduceEqDiff,fW,fS,hT,hH,hsp,ha0,b1,b3,b4]
        exact hP1 _ (by decide) (by simp [b1,b3,b4])
    · by_cases b4 : G = T <;> simp -implicitDefEqProofs only [go_sem,↓reduceIte,reduceCtorEq,Int.reduceLT,Int.reduceLE,Int.reduceToNat,Nat.reduceAdd,Nat.reduceMul,Nat.reduceLeDiff,Nat.reduceLT,Nat.reduceSub,Int.reduceNeg,Int.reduceEq,Int.reduceBEq,Int.reduceBNe,Nat.reduceEqDiff,fW,fS,hT,hH,hsp,ha0,b1,b3,b4] <;> exact hP1 _ (by decide) (by simp [b1,b3,b4])
  · have hok := hP0 (by simp [k0,k1,k2,k3])
    by_cases b1 : T = -1
    · by_cases b3 : 0 ≤ H <;> simp -implicitDefEqProofs only [go_sem,↓reduceIte,reduceCtorEq,Int.reduceLT,Int.reduceLE,Int.reduceToNat,Nat.reduceAdd,Nat.reduceMul,Nat.reduceLeDiff,Nat.reduceLT,Nat.reduceSub,Int.reduceNeg,Int.reduceEq,Int.reduceBEq,Int.reduceBNe,Nat.reduceEqDiff,fW,fS,hT,hH,k0,k1,k2,k3,b1,b3] <;> exact hok
    · by_cases b3 : 0 ≤ H <;> by_cases b4 : G = T <;> simp -implicitDefEqProofs only [go_sem,↓reduceIte,reduceCtorEq,Int.reduceLT,Int.reduceLE,Int.reduceToNat,Nat.reduceAdd,Nat.reduceMul,Nat.reduceLeDiff,Nat.reduceLT,Nat.reduceSub,Int.reduceNeg,Int.reduceEq,Int.reduceBEq,Int.reduceBNe,Nat.reduceEqDiff,fW,fS,hT,hH,hsp,ha0,k0,k1,k2,k3,b1,b3,b4] <;> exact hok
end Vg.G3
namespace Vg.G3
open Go Lg
set_option linter.unusedSimpArgs false
set_option linter.unusedVariables false
set_option maxRecDepth 10000
set_option maxHeartbeats 4000000
attribute [local congr] bind_congr1
attribute [local go_sem] act_Copy_r0 act_Copy_r1 act_Copy_r1_d act_Copy_f act_Copy_v
def cpW (w : Wd) (n : Nat) : List VV := [.int .i64 w.sl,.hs (n + 3) 0 w.pl.length 1,.hs (n + 5) 0 w.sn.length 1,.hs (n + 7) 0 w.sp.length 1]
def cpH (w : Wd) (n : Nat) : VHeap := [.cells true (fW w),.dead,.dead,.cells true (w.pl.map fI).flatten,.dead,.cells true (w.sn.map fB).flatten,.dead,.cells true (w.sp.map fI).flatten,.cells true (cpW w n)]
theorem Copy_spec (w : Wd) (h1 : 1 ≤ w.pl.length) (h2 : 1 ≤ w.sn.length) (h3 : 1 ≤ w.sp.length) (b1 : w.pl.length ≤ 1000) (b2 : w.sn.length ≤ 1000) (b3 : w.sp.length ≤ 1000) (lo : Nat) (h : VHeap) (hlo : lo ≤ h.length) :
    callVL vp lo n_act_Copy [.agg (fW w)] h = some (.agg (cpW w h.length),h ++ cpH w h.length) := by
  have key := call_body (p := vp) (lo := lo) (h := h) (f := n_act_Copy) (fn := act_Copy_v) (args := [.agg (fW w)]) (P := fun r => r = (VV.agg (cpW w h.length),h ++ cpH w h.length)) rfl (.inr rfl) rfl ?_
  · obtain ⟨r,hr,rfl⟩ := key; exact hr
  have hlo' : ∀ k,lo ≤ h.length + k := fun k => Nat.le_trans hlo (Nat.le_add_right _ _)
  have hfI : ∀ l : List Int,(l.map fI).flatten.all scal = true := fun l => all_flat fun r hr => by obtain ⟨w,_,rfl⟩ := List.mem_map.1 hr; rfl
  have hfB : ∀ l : List Bool,(l.map fB).flatten.all scal = true := fun l => all_flat fun r hr => by obtain ⟨w,_,rfl⟩ := List.mem_map.1 hr; rfl
  have e1 : w.pl.map fI ≠ [] := by intro e; rw [List.map_eq_nil_iff] at e; rw [e] at h1; exact absurd h1 (by decide)
  have e2 : w.sn.map fB ≠ [] := by intro e; rw [List.map_eq_nil_iff] at e; rw [e] at h2; exact absurd h2 (by decide)
  have e3 : w.sp.map fI ≠ [] := by intro e; rw [List.map_eq_nil_iff] at e; rw [e] at h3; exact absurd h3 (by decide)
  have c1 : ∀ l : VHeap,callVL vp lo n_slices_Clone_intint [.list .s (w.pl.map fI)] (h ++ l) = some (.hs (h.length + (l.length + 1)) 0 w.pl.length 1,h ++ (l ++ [.dead,.cells true (w.pl.map fI).flatten])) := fun l => by
    have := cloneM_call (p := vp) (f := n_slices_Clone_intint) (pu := false) (es := 1) (bytes := 8) (lo := lo) (rows := w.pl.map fI) (h := h ++ l) rfl (by rw [List.all_eq_true]; intro r hr; obtain ⟨w,_,rfl⟩ := List.mem_map.1 hr; rfl) (hfI _) (by rw [List.length_map]; omega) (by rw [List.length_append]; exact Nat.le_trans hlo (Nat.le_add_right _ _))
    rw [this,if_neg e1,List.length_map,List.length_append,List.append_assoc,Nat.add_assoc]
  have c2 : ∀ l : VHeap,callVL vp lo n_slices_Clone_boolbool [.list .s (w.sn.map fB)] (h ++ l) = some (.hs (h.length + (l.length + 1)) 0 w.sn.length 1,h ++ (l ++ [.dead,.cells true (w.sn.map fB).flatten])) := fun l => by
    have := cloneM_call (p := vp) (f := n_slices_Clone_boolbool) (pu := false) (es := 1) (bytes := 1) (lo := lo) (rows := w.sn.map fB) (h := h ++ l) rfl (by rw [List.all_eq_true]; intro r hr; obtain ⟨w,_,rfl⟩ := List.mem_map.1 hr; rfl) (hfB _) (by rw [List.length_map]; omega) (by rw [List.length_append]; exact Nat.le_trans hlo (Nat.le_add_right _ _))
    rw [this,if_neg e2,List.length_map,List.length_append,List.append_assoc,Nat.add_assoc]
  have c3 : ∀ l : VHeap,callVL vp lo n_slices_Clone_intint [.list .s (w.sp.map fI)] (h ++ l) = some (.hs (h.length + (l.length + 1)) 0 w.sp.length 1,h ++ (l ++ [.dead,.cells true (w.sp.map fI).flatten])) := fun l => by
    have := cloneM_call (p := vp) (f := n_slices_Clone_intint) (pu := false) (es := 1) (bytes := 8) (lo := lo) (rows := w.sp.map fI) (h := h ++ l) rfl (by rw [List.all_eq_true]; intro r hr; obtain ⟨w,_,rfl⟩ := List.mem_map.1 hr; rfl) (hfI _) (by rw [List.length_map]; omega) (by rw [List.length_append]; exact Nat.le_trans hlo (Nat.le_add_right _ _))
    rw [this,if_neg e3,List.length_map,List.length_append,List.append_assoc,Nat.add_assoc]
  simp -implicitDefEqProofs only [go_sem,↓reduceIte,reduceCtorEq,Int.reduceLT,Int.reduceLE,Int.reduceToNat,Nat.reduceAdd,Nat.reduceMul,Nat.reduceLeDiff,Nat.reduceLT,Nat.reduceSub,Int.reduceNeg,Int.reduceEq,Int.reduceBEq,Int.reduceBNe,Nat.reduceEqDiff,ap_get0,ap_get,ap_set0,ap_set,ap_take,ap_sub,ap_le,List.append_assoc,Nat.add_assoc,Nat.add_lt_add_iff_left,Nat.lt_add_right_iff_pos,fW,c1,c2,c3,hlo',cpW,cpH]
end Vg.G3
namespace Vg.G3
open Go Lg
set_option linter.unusedSimpArgs false
set_option linter.unusedVariables false
set_option maxRecDepth 10000
set_option maxHeartbeats 4000000
attribute [local congr] bind_congr1
attribute [local go_sem] act_Can_r0 act_Can_r1 act_Can_r2 act_Can_r3 act_Can_r4 act_Can_r5 act_Can_r6 act_Can_r7 act_Can_r8 act_Can_f act_Can_v
def canF (w : Wd) (s : Stp) : Prop := formF s = true ∧ s.a < w.sp.length ∧ s.p < w.pl.length ∧ s.s < w.sl ∧ mayF w s
theorem form_arm {s : Stp} (h : formF s = true) : 0 ≤ s.a ∧ -1 ≤ s.p ∧ -1 ≤ s.s ∧ (s.k = 1 ∨ s.k = 3 → 0 ≤ s.p) ∧ (s.k = 2 → 0 ≤ s.s) := by
  unfold formF at h
  split at h
  · cases h
  · refine ⟨by omega,by omega,by omega,fun hk => ?_,fun hk => ?_⟩
    · rw [if_neg (by omega),if_pos hk] at h; exact (of_decide_eq_true h).1
    · rw [if_neg (by omega),if_neg (by omega),if_pos hk] at h; exact (of_decide_eq_true h).1
theorem Can_spec {w : Wd} (hw : Ok w) (s : Stp) : ∃ e : Int,(e = 0 ↔ canF w s) ∧ ∀ lo h,callVL vp lo n_act_Can [.agg (fW w),.agg (fS s)] h = some (.int .i64 e,h) := by
  obtain ⟨P,hP⟩ : ∃ P : VV → Prop,P = fun v : VV => ∃ e : Int,(e = 0 ↔ canF w s) ∧ v = .int .i64 e := ⟨_,rfl⟩
  have key := call_val (p := vp) (f := n_act_Can) (fn := act_Can_v) (args := [.agg (fW w),.agg (fS s)]) (P := P) rfl rfl rfl rfl rfl ?_
  · obtain ⟨v,hv,hc⟩ := key; subst hP; obtain ⟨e,he,rfl⟩ := hv; exact ⟨e,he,hc⟩
  have hP0 : ∀ e : Int,(e = 0 ↔ canF w s) → P (.int .i64 e) := fun e h => by subst hP; exact ⟨e,h,rfl⟩
  have hP1 : ∀ e : Int,e ≠ 0 → ¬ canF w s → P (.int .i64 e) := fun e he h => by subst hP; exact ⟨e,⟨fun h0 => absurd h0 he,fun h0 => absurd h0 h⟩,rfl⟩
  clear hP
  have hpl := hw.pl
  have hsp := hw.sp
  have hsn := hw.sn
  obtain ⟨e,he,hC⟩ := Check_spec w (by omega) (by omega) (by omega)
  obtain rfl := he.2 hw
  have hF := Form_spec s
  simp only [fW,fS] at hC hF
  unfold canF at hP0 hP1
  cases hf : formF s
  · rw [hf] at hF
    simp -implicitDefEqProofs only [go_sem,↓reduceIte,reduceCtorEq,Int.reduceLT,Int.reduceLE,Int.reduceToNat,Nat.reduceAdd,Nat.reduceMul,Nat.reduceLeDiff,Nat.reduceLT,Nat.reduceSub,Int.reduceNeg,Int.reduceEq,Int.reduceBEq,Int.reduceBNe,Nat.reduceEqDiff,fW,fS,hC,hF]
    exact hP1 3 (by decide) fun h => by rw [hf] at h; cases h.1
  rw [hf] at hF
  obtain ⟨f1,f2,f3,f4,f5⟩ := form_arm hf
  by_cases h1 : (w.sp.length : Int) ≤ s.a
  · simp -implicitDefEqProofs only [go_sem,↓reduceIte,reduceCtorEq,Int.reduceLT,Int.reduceLE,Int.reduceToNat,Nat.reduceAdd,Nat.reduceMul,Nat.reduceLeDiff,Nat.reduceLT,Nat.reduceSub,Int.reduceNeg,Int.reduceEq,Int.reduceBEq,Int.reduceBNe,Nat.reduceEqDiff,fW,fS,hC,hF,h1]
    exact hP1 4 (by decide) fun h => by omega
  by_cases h2 : (w.pl.length : Int) ≤ s.p
  · simp -implicitDefEqProofs only [go_sem,↓reduceIte,reduceCtorEq,Int.reduceLT,Int.reduceLE,Int.reduceToNat,Nat.reduceAdd,Nat.reduceMul,Nat.reduceLeDiff,Nat.reduceLT,Nat.reduceSub,Int.reduceNeg,Int.reduceEq,Int.reduceBEq,Int.reduceBNe,Nat.reduceEqDiff,fW,fS,hC,hF,h1,h2]
    exact hP1 4 (by decide) fun h => by omega
  by_cases h3 : w.sl ≤ s.s
  · simp -implicitDefEqProofs only [go_sem,↓reduceIte,reduceCtorEq,Int.reduceLT,Int.reduceLE,Int.reduceToNat,Nat.reduceAdd,Nat.reduceMul,Nat.reduceLeDiff,Nat.reduceLT,Nat.reduceSub,Int.reduceNeg,Int.reduceEq,Int.reduceBEq,Int.reduceBNe,Nat.reduceEqDiff,fW,fS,hC,hF,h1,h2,h3]
    exact hP1 4 (by decide) fun h => by omega
  obtain ⟨e,he,hM⟩ := may_spec hw.toSmall s f1 (by omega) (by omega) f4
  simp only [fW,fS] at hM
  simp -implicitDefEqProofs only [go_sem,↓reduceIte,reduceCtorEq,Int.reduceLT,Int.reduceLE,Int.reduceToNat,Nat.reduceAdd,Nat.reduceMul,Nat.reduceLeDiff,Nat.reduceLT,Nat.reduceSub,Int.reduceNeg,Int.reduceEq,Int.reduceBEq,Int.reduceBNe,Nat.reduceEqDiff,fW,fS,hC,hF,h1,h2,h3,hM]
  exact hP0 e ⟨fun h => ⟨hf,by omega,by omega,by omega,he.1 h⟩,fun h => he.2 h.2.2.2.2⟩
/-- The world after a step. -/
def doF (w : Wd) (s : Stp) : Wd :=
  if s.k = 0 then { w with sp := w.sp.set s.a.toNat (targetF w s) }
  else if s.k = 1 then { w with pl := w.pl.set s.p.toNat (-2 - s.a) }
  else if s.k = 3 then { w with sn := w.sn.set s.p.toNat true }
  else if s.k = 2 then { w with pl := w.pl.set (holdsF w s.a).toNat s.s,sn := w.sn.set (holdsF w s.a).toNat false }
  else w
theorem fzN_row {α : Type} {f : α → VV} (hf : ∀ x,scal (f x) = true) {h : VHeap} {n len d : Nat} {l : List α} (hn : h[n]? = some (.cells true (l.map fun x => [f x]).flatten)) (hl : len = l.length) : fzN h 0 (d + 2) (.hs n 0 len 1) = some (.list .s (l.map fun x => [f x])) := by
  have hm : ∀ l : List α,(l.map fun x => [f x]).flatten = l.map f := fun l => by induction l with
    | nil => rfl
    | cons x r ih => simp [ih]
  have hz : ∀ x,fzN h 0 (d + 1) (f x) = some (f x) := fun x => by have := hf x; cases hx : f x <;> rw [hx] at this <;> first | rfl | cases this
  have hM : ∀ l : List α,(l.map f).mapM (fzN h 0 (d + 1)) = some (l.map f) := fun l => by induction l with
    | nil => rfl
    | cons x r ih => rw [List.map_cons,mapM_cons',hz,ih]; rfl
  have hlow : ∀ l : List α,lowL 0 (l.map f) = true := fun l => lowL_of fun v hv => by obtain ⟨x,_,rfl⟩ := List.mem_map.1 hv; exact scal_low (hf x)
  have hch : ∀ l : List α,chunk 1 l.length (l.map f) = l.map fun x => [f x] := fun l => by induction l with
    | nil => rfl
    | cons x r ih => simp [chunk,ih]
  subst hl
  rw [fzN]
  simp only [hn,Nat.zero_le,if_true,hm,List.drop_zero,Nat.mul_one,Nat.zero_add,List.length_map,Nat.le_refl]
  rw [List.take_of_length_le (by rw [List.length_map]; exact Nat.le_refl _),hM]
  simp only [hlow,if_true,hch]
theorem set_row {α : Type} {f : α → VV} {l : List α} {i : Nat} (hi : i < l.length) (x : α) : vsplice (l.map fun x => [f x]).flatten (i * 1) [f x] = ((l.set i x).map fun x => [f x]).flatten := by
  have := flat_set (es := 1) (i := i) (d := 0) (rows := l.map fun x => [f x]) (row := [f l[i]]) (vs := [f x]) (fun r hr => by obtain ⟨w,_,rfl⟩ := List.mem_map.1 hr; rfl) (by rw [List.getElem?_map,List.getElem?_eq_getElem hi]; rfl) (by simp)
  rw [Nat.add_zero] at this
  rw [this]
  congr 1
  apply List.ext_getElem?
  intro j
  rw [List.getElem?_set,List.getElem?_map,List.getElem?_map,List.getElem?_set]
  by_cases hij : i = j
  · subst hij; simp [hi,vsplice]
  · simp [hij]
theorem len_row {α : Type} {f : α → VV} (l : List α) : (l.map fun x => [f x]).flatten.length = l.length := by
  induction l with
  | nil => rfl
  | cons x r ih => simp [ih]
end Vg.G3
namespace Vg.G3
open Go Lg
set_option linter.unusedSimpArgs false
set_option linter.unusedVariables false
set_option maxRecDepth 10000
set_option maxHeartbeats 4000000
attribute [local congr] bind_congr1
attribute [local go_sem] act_Do_r0 act_Do_r1 act_Do_r2 act_Do_r3 act_Do_r4 act_Do_r5 act_Do_r6 act_Do_r7 act_Do_r7_d act_Do_r8 act_Do_r9 act_Do_r9_d act_Do_r10 act_Do_r11 act_Do_r12 act_Do_r13 act_Do_r14 act_Do_r14_d act_Do_r15 act_Do_f act_Do_v
theorem holds_bnd (w : Wd) (a : Int) : -1 ≤ holdsF w a ∧ holdsF w a < w.pl.length := by
  unfold holdsF
  have := idx_ge w.pl (-2 - a)
  split
  · omega
  · exact this
theorem fI_row : fI = fun x => [VV.int .i64 x] := rfl
theorem fB_row : fB = fun x => [VV.bool x] := rfl
theorem Do_yes {w : Wd} (hw : Ok w) (h1 : 1 ≤ w.pl.length) (h2 : 1 ≤ w.sp.length) (s : Stp) (hc : canF w s) (lo : Nat) (h : VHeap) : callVL vp lo n_act_Do [.agg (fW w),.agg (fS s)] h = some (.tup [.agg (fW (doF w s)),.int .i64 0],h) := by
  refine call_valE (fn := act_Do_v) rfl rfl rfl rfl rfl ?_ lo h
  obtain ⟨e,he,hC⟩ := Can_spec hw s
  obtain rfl := he.2 hc
  have hpl := hw.pl
  have hsp := hw.sp
  have hsn := hw.sn
  have hcp := fun lo h hlo => Copy_spec w h1 (by omega) h2 (by omega) (by omega) (by omega) lo h hlo
  obtain ⟨f1,f2,f3,f4,f5⟩ := form_arm hc.1
  obtain ⟨c1,c2,c3,c4,c5⟩ := hc
  have hT := target_spec hw.toSmall s
  have hHd := Held_spec s.a f1 (by omega)
  have hH := Holds_spec hw.toSmall s.a
  have hcp3 : ∀ a b c : VBlk,callVL vp 0 n_act_Copy [.agg (fW w)] [a,b,c] = some (.agg (cpW w 3),[a,b,c] ++ cpH w 3) := fun a b c => hcp 0 [a,b,c] (Nat.zero_le _)
  simp only [fW,fS,cpW,cpH] at hC hT hH hcp3
  have l1 := len_row (f := VV.int .i64) w.pl
  have l2 := len_row (f := VV.bool) w.sn
  have l3 := len_row (f := VV.int .i64) w.sp
  rw [← fI_row] at l1 l3
  rw [← fB_row] at l2
  have g1 : ∀ (h : VHeap) (n d : Nat) (l : List Int),h[n]? = some (.cells true (l.map fI).flatten) → l.length = w.pl.length → fzN h 0 (d + 2) (.hs n 0 w.pl.length 1) = some (.list .s (l.map fI)) := fun h n d l hn hl => fzN_row (f := VV.int .i64) (fun _ => rfl) hn hl.symm
  have g2 : ∀ (h : VHeap) (n d : Nat) (l : List Bool),h[n]? = some (.cells true (l.map fB).flatten) → l.length = w.sn.length → fzN h 0 (d + 2) (.hs n 0 w.sn.length 1) = some (.list .s (l.map fB)) := fun h n d l hn hl => fzN_row (f := VV.bool) (fun _ => rfl) hn hl.symm
  have g3 : ∀ (h : VHeap) (n d : Nat) (l : List Int),h[n]? = some (.cells true (l.map fI).flatten) → l.length = w.sp.length → fzN h 0 (d + 2) (.hs n 0 w.sp.length 1) = some (.list .s (l.map fI)) := fun h n d l hn hl => fzN_row (f := VV.int .i64) (fun _ => rfl) hn hl.symm
  unfold doF
  obtain ⟨k,a,p,q,t⟩ := s
  simp only at *
  generalize targetF w ⟨k,a,p,q,t⟩ = T at *
  have hm := c5
  unfold mayF at hm
  simp only at hm
  have e1 := fun h n hn => g1 h n 2 w.pl hn rfl
  have e2 := fun h n hn => g2 h n 2 w.sn hn rfl
  have e3 := fun h n hn => g3 h n 2 w.sp hn rfl
  by_cases k0 : k = 0
  · subst k0
    have hst := set_row (f := VV.int .i64) (l := w.sp) (i := a.toNat) (by omega) T
    rw [← fI_row] at hst
    simp only [Nat.mul_one,vsplice,List.length_cons,List.length_nil,Nat.zero_add] at hst
    have hlt : a.toNat < w.sp.length := by omega
    have hle : a.toNat + 1 ≤ w.sp.length := by omega
    have e3 := fun h n hn => g3 h n 2 (w.sp.set a.toNat T) hn (by simp)
    simp -implicitDefEqProofs only [go_sem,↓reduceIte,reduceCtorEq,Int.reduceLT,Int.reduceLE,Int.reduceToNat,Nat.reduceAdd,Nat.reduceMul,Nat.reduceLeDiff,Nat.reduceLT,Nat.reduceSub,Int.reduceNeg,Int.reduceEq,Int.reduceBEq,Int.reduceBNe,Nat.reduceEqDiff,fW,fS,hC,hcp3,hT,f1,hlt,hle,l3,hst,e1,e2,e3]
  by_cases k1 : k = 1
  · subst k1
    have hp := f4 (.inl rfl)
    have hst := set_row (f := VV.int .i64) (l := w.pl) (i := p.toNat) (by omega) (-2 - a)
    rw [← fI_row] at hst
    simp only [Nat.mul_one,vsplice,List.length_cons,List.length_nil,Nat.zero_add] at hst
    have hlt : p.toNat < w.pl.length := by omega
    have hle : p.toNat + 1 ≤ w.pl.length := by omega
    have e1 := fun h n hn => g1 h n 2 (w.pl.set p.toNat (-2 - a)) hn (by simp)
    simp -implicitDefEqProofs only [go_sem,↓reduceIte,reduceCtorEq,Int.reduceLT,Int.reduceLE,Int.reduceToNat,Nat.reduceAdd,Nat.reduceMul,Nat.reduceLeDiff,Nat.reduceLT,Nat.reduceSub,Int.reduceNeg,Int.reduceEq,Int.reduceBEq,Int.reduceBNe,Nat.reduceEqDiff,fW,fS,hC,hcp3,hHd,hp,hlt,hle,l1,hst,e1,e2,e3]
  by_cases k3 : k = 3
  · subst k3
    have hp := f4 (.inr rfl)
    have hst := set_row (f := VV.bool) (l := w.sn) (i := p.toNat) (by omega) true
    rw [← fB_row] at hst
    simp only [Nat.mul_one,vsplice,List.length_cons,List.length_nil,Nat.zero_add] at hst
    have hlt : p.toNat < w.sn.length := by omega
    have hle : p.toNat + 1 ≤ w.sn.length := by omega
    have e2 := fun h n hn => g2 h n 2 (w.sn.set p.toNat true) hn (by simp)
    simp -implicitDefEqProofs only [go_sem,↓reduceIte,reduceCtorEq,Int.reduceLT,Int.reduceLE,Int.reduceToNat,Nat.reduceAdd,Nat.reduceMul,Nat.reduceLeDiff,Nat.reduceLT,Nat.reduceSub,Int.reduceNeg,Int.reduceEq,Int.reduceBEq,Int.reduceBNe,Nat.reduceEqDiff,fW,fS,hC,hcp3,hp,hlt,hle,l2,hst,e1,e2,e3]
  by_cases k2 : k = 2
  · subst k2
    have hp := (hm.2.2.2.2 rfl).1
    have hb := holds_bnd w a
    generalize holdsF w a = q0 at *
    have hst := set_row (f := VV.int .i64) (l := w.pl) (i := q0.toNat) (by omega) q
    rw [← fI_row] at hst
    have hst2 := set_row (f := VV.bool) (l := w.sn) (i := q0.toNat) (by omega) false
    rw [← fB_row] at hst2
    simp only [Nat.mul_one,vsplice,List.length_cons,List.length_nil,Nat.zero_add] at hst hst2
    have hlt : q0.toNat < w.pl.length := by omega
    have hle : q0.toNat + 1 ≤ w.pl.length := by omega
    have hlt2 : q0.toNat < w.sn.length := by omega
    have hle2 : q0.toNat + 1 ≤ w.sn.length := by omega
    have e1 := fun h n hn => g1 h n 2 (w.pl.set q0.toNat q) hn (by simp)
    have e2 := fun h n hn => g2 h n 2 (w.sn.set q0.toNat false) hn (by simp)
    simp -implicitDefEqProofs only [go_sem,↓reduceIte,reduceCtorEq,Int.reduceLT,Int.reduceLE,Int.reduceToNat,Nat.reduceAdd,Nat.reduceMul,Nat.reduceLeDiff,Nat.reduceLT,Nat.reduceSub,Int.reduceNeg,Int.reduceEq,Int.reduceBEq,Int.reduceBNe,Nat.reduceEqDiff,fW,fS,hC,hcp3,hH,hp,hlt,hle,l1,hst,hlt2,hle2,l2,hst2,e1,e2,e3]
  · simp -implicitDefEqProofs only [go_sem,↓reduceIte,reduceCtorEq,Int.reduceLT,Int.reduceLE,Int.reduceToNat,Nat.reduceAdd,Nat.reduceMul,Nat.reduceLeDiff,Nat.reduceLT,Nat.reduceSub,Int.reduceNeg,Int.reduceEq,Int.reduceBEq,Int.reduceBNe,Nat.reduceEqDiff,fW,fS,hC,hcp3,k0,k1,k2,k3,e1,e2,e3]
end Vg.G3
