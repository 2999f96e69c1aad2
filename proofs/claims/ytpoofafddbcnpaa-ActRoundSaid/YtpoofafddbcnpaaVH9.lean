import Derived.Test.YtpoofafddbcnpaaVH8
namespace Vg.G3
open Go Lg
set_option linter.unusedSimpArgs false
set_option linter.unusedVariables false
set_option maxRecDepth 10000
set_option maxHeartbeats 4000000
attribute [local congr] bind_congr1
attribute [local go_sem] gantkeep4_World_r0 gantkeep4_World_r1 gantkeep4_World_r2 gantkeep4_World_r3 gantkeep4_World_r4 gantkeep4_World_r5 gantkeep4_World_r6 gantkeep4_World_r7 gantkeep4_World_r8 gantkeep4_World_r9 gantkeep4_World_r10 gantkeep4_World_r11 gantkeep4_World_r12 gantkeep4_World_r13 gantkeep4_World_r14 gantkeep4_World_r15 gantkeep4_World_r16 gantkeep4_World_r16_d gantkeep4_World_r17 gantkeep4_World_r18 gantkeep4_World_r19 gantkeep4_World_r20 gantkeep4_World_r21 gantkeep4_World_r22 gantkeep4_World_r23 gantkeep4_World_r24 gantkeep4_World_r25 gantkeep4_World_r26 gantkeep4_World_r27 gantkeep4_World_r28 gantkeep4_World_r29 gantkeep4_World_r30 gantkeep4_World_r31 gantkeep4_World_f gantkeep4_World_v
def goodL (P : Int → Prop) (l : List Int) : Prop := ∀ (i : Nat) (x : Int),l[i]? = some x → P x ∧ (x = -1 ∨ x ∉ l.take i)
theorem goodL_nil (P : Int → Prop) : goodL P [] := fun i x h => by simp at h
theorem goodL_snoc {P : Int → Prop} {l : List Int} {x : Int} (h : goodL P l) (hx : P x) (hn : x = -1 ∨ x ∉ l) : goodL P (l ++ [x]) := by
  intro i y hy
  rcases Nat.lt_or_ge i l.length with hi | hi
  · rw [List.getElem?_append_left hi] at hy
    rw [List.take_append_of_le_length (by omega)]
    exact h i y hy
  · rw [List.getElem?_append_right hi] at hy
    have e : i - l.length = 0 := by
      rcases Nat.eq_zero_or_pos (i - l.length) with h | h
      · exact h
      · rw [List.getElem?_eq_none (by simp; omega)] at hy; cases hy
    rw [e] at hy
    simp at hy
    subst hy
    have e2 : i = l.length := by omega
    subst e2
    rw [List.take_left]
    exact ⟨hx,hn⟩
def encM (ms : List (Int × Bool)) : List (VV × VV) := ms.map fun e => (VV.int .i64 e.1,VV.bool e.2)
def lkM (k : Int) : List (Int × Bool) → Bool
  | [] => false
  | e :: r => if k = e.1 then e.2 else lkM k r
def upM (k : Int) (b : Bool) : List (Int × Bool) → List (Int × Bool)
  | [] => [(k,b)]
  | e :: r => if k = e.1 then (e.1,b) :: r else e :: upM k b r
theorem find_enc (k : Int) : ∀ ms,findV (.int .i64 k) (encM ms) = some none ∧ lkM k ms = false ∨ ∃ b,findV (.int .i64 k) (encM ms) = some (some (.bool b)) ∧ lkM k ms = b
  | [] => .inl ⟨rfl,rfl⟩
  | (k',b) :: r => by
    have ih := find_enc k r
    by_cases e : k = k'
    · subst e; right; exact ⟨b,by simp [encM,findV,keyV],by simp [lkM]⟩
    · have h1 : findV (.int .i64 k) (encM ((k',b) :: r)) = findV (.int .i64 k) (encM r) := by
        have hb : (k == k') = false := by simp [e]
        simp [encM,findV,keyV,hb]
      rw [h1]; simp only [lkM,e,if_false]; exact ih
theorem upd_enc (k : Int) (b : Bool) : ∀ ms,updV (.int .i64 k) (.bool b) (encM ms) = some (encM (upM k b ms))
  | [] => rfl
  | (k',b') :: r => by
    have ih := upd_enc k b r
    by_cases e : k = k'
    · subst e; simp [encM,updV,keyV,upM]
    · simp only [encM,List.map_cons,updV,keyV,if_true,int_beq,e,decide_false,upM,if_false] at ih ⊢
      rw [ih]
theorem lk_up (k j : Int) (b : Bool) : ∀ ms,lkM j (upM k b ms) = if j = k then b else lkM j ms
  | [] => by simp [upM,lkM]
  | (k',b') :: r => by
    have ih := lk_up k j b r
    by_cases e : k = k'
    · subst e; by_cases h : j = k <;> simp [upM,lkM,h]
    · simp only [upM,e,if_false,lkM,ih]
      by_cases h : j = k'
      · subst h; have e' : ¬ j = k := fun h => e h.symm
        simp [e']
      · simp [h]
/-- What a table of what is taken says. -/
def tabM (ms : List (Int × Bool)) (l : List Int) : Prop := ∀ k,lkM k ms = true ↔ k ≠ -1 ∧ k ∈ l
theorem tab_nil : tabM [] [] := fun k => by simp [lkM]
theorem tab_snoc {ms : List (Int × Bool)} {l : List Int} (h : tabM ms l) (x : Int) : tabM (upM x (!decide (x = -1)) ms) (l ++ [x]) := fun k => by
  rw [lk_up]
  have := h k
  by_cases e : k = x
  · subst e; simp
  · simp [e,this]
theorem mapI_snoc (l : List Int) (x : Int) : (l ++ [x]).map fI = l.map fI ++ [[.int .i64 x]] := by rw [List.map_append]; rfl
theorem mapB_snoc (l : List Bool) (x : Bool) : (l ++ [x]).map fB = l.map fB ++ [[.bool x]] := by rw [List.map_append]; rfl
theorem next_at2 {lo : Nat} (hlo : lo ≤ 2) (a b : VBlk) (t : VHeap) (n : Int) (ys : List Int) : callVL vp lo n_gantmake_Stream_Next [.ptr 2 0,.int .i64 n] (a :: b :: .cells true [.list .s (ys.map fun x => [.int .i64 x])] :: t) = some (.int .i64 (nxt ys n).1,a :: b :: .cells true [.list .s ((nxt ys n).2.map fun x => [.int .i64 x])] :: t) := by
  have := Next_spec (lo := lo) (s := 2) (h := a :: b :: strm ys :: t) (xs := ys) n hlo rfl
  simpa [strm,ints] using this
theorem World_spec (a p s : Nat) (ha1 : 1 ≤ a) (ha2 : a ≤ 2) (hp1 : 1 ≤ p) (hp2 : p ≤ 2) (hs1 : 1 ≤ s) (hs2 : s ≤ 2) (xs : List Int) : ∃ w : Wd,Ok w ∧ w.sl = s ∧ w.pl.length = p ∧ w.sp.length = a ∧
    ∀ lo h,callVL vp lo n_gantkeep4_World [.agg (smallV a p s),.list .s (xs.map fun x => [.int .i64 x])] h = some (.agg (fW w),h) := by
  obtain ⟨P,hP⟩ : ∃ P : VV → Prop,P = fun v : VV => ∃ w : Wd,Ok w ∧ w.sl = s ∧ w.pl.length = p ∧ w.sp.length = a ∧ v = .agg (fW w) := ⟨_,rfl⟩
  have key := call_val (p := vp) (f := n_gantkeep4_World) (fn := gantkeep4_World_v) (args := [.agg (smallV a p s),.list .s (xs.map fun x => [.int .i64 x])]) (P := P) rfl rfl rfl rfl rfl ?_
  · obtain ⟨v,hv,hc⟩ := key; subst hP; obtain ⟨w,h1,h2,h3,h4,rfl⟩ := hv; exact ⟨w,h1,h2,h3,h4,hc⟩
  have hP1 : ∀ pl sn sp,goodL (fun x => -1 - (a : Int) ≤ x ∧ x < s) pl → pl.length = p → sn.length = p → sp.length = a → goodL (fun x => -1 ≤ x ∧ ¬ ((s : Int) ≤ x ∧ x < 8) ∧ x < 8 + (p : Int)) sp → P (.agg (fW ⟨s,pl,sn,sp⟩)) := by
    intro pl sn sp h1 h2 h3 h4 h5
    subst hP
    refine ⟨⟨s,pl,sn,sp⟩,⟨⟨by simp,by simp; omega,by simp; omega,by simp; omega,by simp; omega⟩,fun i x hx => ?_,fun i x hx => ?_⟩,rfl,h2,h4,rfl⟩
    · have := h1 i x hx
      simp only [okP,h4]
      exact ⟨this.1.1,this.1.2,this.2⟩
    · have := h5 i x hx
      simp only [okS,h2]
      exact ⟨this.1.1,this.1.2.1,this.1.2.2,this.2⟩
  clear hP
  have la : (armsR.take a).length = a := by simp [armsR]; omega
  have lp : (partsR.take p).length = p := by simp [partsR]; omega
  have ls : (slotsR.take s).length = s := by simp [slotsR]; omega
  have hN := fun lo (hlo : lo ≤ 2) => next_at2 hlo
  have e1 : IntKind.i64.wrap ((s : Int) + a) = s + a := wrap_id (by omega) (by omega)
  have e2 : IntKind.i64.wrap ((s : Int) + a + 1) = s + a + 1 := wrap_id (by omega) (by omega)
  have e3 : IntKind.i64.wrap ((s : Int) + p) = s + p := wrap_id (by omega) (by omega)
  have e4 : IntKind.i64.wrap ((s : Int) + p + 1) = s + p + 1 := wrap_id (by omega) (by omega)
  have hz : ∀ x : Int,skey (.int .i64 x) = true := fun _ => rfl
  have hfr : ∀ b,VV.free (.bool b) = true := fun _ => rfl
  have small : ∀ l : List (List VV),l.length ≤ 10 → (l.length + 1 + 512) * 8 ≤ 140737488355328 ∧ (l.length + 1 + 512) * 1 ≤ 140737488355328 := fun l hl => ⟨Nat.le_trans (Nat.mul_le_mul_right 8 (show l.length + 1 + 512 ≤ 600 by omega)) (by decide),by omega⟩
  simp -implicitDefEqProofs only [go_sem,↓reduceIte,reduceCtorEq,Int.reduceLT,Int.reduceLE,Int.reduceToNat,Nat.reduceAdd,Nat.reduceMul,Nat.reduceLeDiff,Nat.reduceLT,Nat.reduceSub,Int.reduceNeg,Int.reduceEq,Int.reduceBEq,Int.reduceBNe,Nat.reduceEqDiff,smallV,la,lp,ls]
  rw [Sat_bind]
  refine loop_up (I := fun i env h => ∃ (ys : List Int) (pl : List Int) (sn : List Bool) (ms : List (Int × Bool)),env = (VV.undef :: VV.undef :: (.ptr 0 0 : VV) :: VV.undef :: (.ptr 1 0 : VV) :: (.ptr 2 0 : VV) :: (.ptr 3 0 : VV) :: (.map 4 : VV) :: VV.undef :: VV.undef :: VV.undef :: VV.undef :: VV.undef :: VV.undef :: VV.undef :: VV.undef :: VV.undef :: VV.undef :: VV.undef :: VV.undef :: VV.undef :: VV.undef :: (.int .i64 ((p : Nat) : Int) : VV) :: (.int .i64 ((i : Nat) : Int) : VV) :: VV.undef :: VV.undef :: VV.undef :: VV.undef :: VV.undef :: VV.undef :: VV.undef :: VV.undef :: VV.undef :: VV.undef :: VV.undef :: VV.undef :: VV.undef :: VV.undef :: VV.undef :: VV.undef :: VV.undef :: VV.undef :: VV.undef :: VV.undef :: VV.undef :: VV.undef :: VV.undef :: VV.undef :: VV.undef :: VV.undef :: VV.undef :: VV.undef :: VV.undef :: VV.undef :: VV.undef :: VV.undef :: VV.undef :: VV.undef :: VV.undef :: VV.undef :: VV.undef :: VV.undef :: VV.undef :: VV.undef :: VV.undef :: VV.undef :: VV.undef :: VV.undef :: VV.undef :: VV.undef :: VV.undef :: VV.undef :: VV.undef :: VV.undef :: VV.undef :: VV.undef :: VV.undef :: VV.undef :: VV.undef :: VV.undef :: VV.undef :: VV.undef :: VV.undef :: VV.undef :: VV.undef :: VV.undef :: VV.undef :: VV.undef :: VV.undef :: VV.undef :: VV.undef :: VV.undef :: VV.undef :: VV.undef :: VV.undef :: VV.undef :: VV.undef :: VV.undef :: VV.undef :: VV.undef :: VV.undef :: VV.undef :: VV.undef :: VV.undef :: VV.undef :: VV.undef :: VV.undef :: VV.undef :: VV.undef :: VV.undef :: VV.undef :: VV.undef :: VV.undef :: VV.undef :: VV.undef :: VV.undef :: VV.undef :: VV.undef :: VV.undef :: VV.undef :: VV.undef :: VV.undef :: VV.undef :: VV.undef :: VV.undef :: VV.undef :: VV.undef :: VV.undef :: VV.undef :: VV.undef :: VV.undef :: []) ∧ h = [.cells true (smallV a p s),.cells true [.int .i64 0,.list .o [],.list .o [],.list .o []],.cells true [.list .s (ys.map fun x => [.int .i64 x])],.cells true [.int .i64 s,.list .o (pl.map fI),.list .o (sn.map fB),.list .o []],.map (encM ms)] ∧
      pl.length = i ∧ sn.length = i ∧ goodL (fun x => -1 - (a : Int) ≤ x ∧ x < s) pl ∧ tabM ms pl) p ?_ ?_ (Nat.zero_le _) ⟨xs,[],[],[],by simp -implicitDefEqProofs only [go_sem,↓reduceIte,reduceCtorEq,Int.reduceLT,Int.reduceLE,Int.reduceToNat,Nat.reduceAdd,Nat.reduceMul,Nat.reduceLeDiff,Nat.reduceLT,Nat.reduceSub,Int.reduceNeg,Int.reduceEq,Int.reduceBEq,Int.reduceBNe,Nat.reduceEqDiff],by simp -implicitDefEqProofs only [go_sem,↓reduceIte,reduceCtorEq,Int.reduceLT,Int.reduceLE,Int.reduceToNat,Nat.reduceAdd,Nat.reduceMul,Nat.reduceLeDiff,Nat.reduceLT,Nat.reduceSub,Int.reduceNeg,Int.reduceEq,Int.reduceBEq,Int.reduceBNe,Nat.reduceEqDiff,smallV,la,lp,ls,encM],rfl,rfl,goodL_nil _,tab_nil⟩
  · rintro i env h hi ⟨ys,pl,sn,ms,rfl,rfl,hl1,hl2,hg,ht⟩
    have hi' : (i : Int) < ((p : Nat) : Int) := by omega
    have hw := wrap_succ (i := i) (by omega)
    have b1 := nxt_bnd ys (s + a + 1) (by omega) (by omega)
    have ali := all_len (F := fI) (es := 1) (fun _ => rfl) pl
    have alb := all_len (F := fB) (es := 1) (fun _ => rfl) sn
    have r1 : (pl.length + 1 + 512) * 8 ≤ 140737488355328 := by have := (small (pl.map fI) (by rw [List.length_map]; omega)).1; rwa [List.length_map] at this
    have r2 : (sn.length + 1 + 512) ≤ 140737488355328 := by omega
    generalize hys : (nxt ys (s + a + 1)).2 = ys1 at *
    have fin : ∀ X : Int, -1 - (a : Int) ≤ X ∧ X < s → (X = -1 ∨ lkM X ms = false) → ∀ b : Bool,(pl ++ [X]).length = i + 1 ∧ (sn ++ [b]).length = i + 1 ∧ goodL (fun x => -1 - (a : Int) ≤ x ∧ x < s) (pl ++ [X]) ∧ tabM (upM X (!decide (X = -1)) ms) (pl ++ [X]) := by
      intro X hX hn b
      refine ⟨by simp [hl1],by simp [hl2],goodL_snoc hg hX ?_,tab_snoc ht X⟩
      rcases hn with h | h
      · exact .inl h
      · by_cases e : X = -1
        · exact .inl e
        · exact .inr fun hm => by have := (ht X).2 ⟨e,hm⟩; rw [h] at this; cases this
    have u0 := upd_enc (-1) false ms
    have f0 := fin (-1) ⟨by omega,by omega⟩ (.inl rfl)
    generalize hn : (nxt ys (s + a + 1)).1 = n at *
    simp only [decide_true,Bool.not_true] at f0
    by_cases c1 : n < (s : Int)
    · have hX : -1 - (a : Int) ≤ n ∧ n < s := by omega
      have hne : ¬ n = -1 := by omega
      have u1 := upd_enc n true ms
      rcases find_enc n ms with ⟨hf,hlk⟩ | ⟨b,hf,hlk⟩
      · have f1 := fin n hX (.inr hlk)
        simp only [hne,decide_false,Bool.not_false] at f1
        simp -implicitDefEqProofs only [gantkeep4_World_b0,gantkeep4_World_b1,go_sem,↓reduceIte,reduceCtorEq,Int.reduceLT,Int.reduceLE,Int.reduceToNat,Nat.reduceAdd,Nat.reduceMul,Nat.reduceLeDiff,Nat.reduceLT,Nat.reduceSub,Int.reduceNeg,Int.reduceEq,Int.reduceBEq,Int.reduceBNe,Nat.reduceEqDiff,smallV,la,lp,ls,hi',hN,e1,e2,hn,hys,c1,hz,hfr,ali,alb,r1,r2,hw,hf,u1,hne]
        exact ⟨_,pl ++ [n],sn ++ [_],upM n true ms,by rw [mapI_snoc,mapB_snoc],f1 _⟩
      · cases b
        · have f1 := fin n hX (.inr hlk)
          simp only [hne,decide_false,Bool.not_false] at f1
          simp -implicitDefEqProofs only [gantkeep4_World_b0,gantkeep4_World_b1,go_sem,↓reduceIte,reduceCtorEq,Int.reduceLT,Int.reduceLE,Int.reduceToNat,Nat.reduceAdd,Nat.reduceMul,Nat.reduceLeDiff,Nat.reduceLT,Nat.reduceSub,Int.reduceNeg,Int.reduceEq,Int.reduceBEq,Int.reduceBNe,Nat.reduceEqDiff,smallV,la,lp,ls,hi',hN,e1,e2,hn,hys,c1,hz,hfr,ali,alb,r1,r2,hw,hf,u1,hne]
          exact ⟨_,pl ++ [n],sn ++ [_],upM n true ms,by rw [mapI_snoc,mapB_snoc],f1 _⟩
        · simp -implicitDefEqProofs only [gantkeep4_World_b0,gantkeep4_World_b1,go_sem,↓reduceIte,reduceCtorEq,Int.reduceLT,Int.reduceLE,Int.reduceToNat,Nat.reduceAdd,Nat.reduceMul,Nat.reduceLeDiff,Nat.reduceLT,Nat.reduceSub,Int.reduceNeg,Int.reduceEq,Int.reduceBEq,Int.reduceBNe,Nat.reduceEqDiff,smallV,la,lp,ls,hi',hN,e1,e2,hn,hys,c1,hz,hfr,ali,alb,r1,r2,hw,hf,u0]
          exact ⟨_,pl ++ [-1],sn ++ [_],upM (-1) false ms,by rw [mapI_snoc,mapB_snoc],f0 _⟩
    by_cases c2 : n < (s : Int) + a
    · have w1 : IntKind.i64.wrap (n - s) = n - s := wrap_id (by omega) (by omega)
      have w2 : IntKind.i64.wrap (-2 - (n - s)) = -2 - (n - s) := wrap_id (by omega) (by omega)
      have hX : -1 - (a : Int) ≤ -2 - (n - s) ∧ -2 - (n - s) < s := by omega
      have hne : ¬ -2 - (n - s) = -1 := by omega
      generalize hval : -2 - (n - s) = N at *
      have u1 := upd_enc N true ms
      rcases find_enc N ms with ⟨hf,hlk⟩ | ⟨b,hf,hlk⟩
      · have f1 := fin N hX (.inr hlk)
        simp only [hne,decide_false,Bool.not_false] at f1
        simp -implicitDefEqProofs only [gantkeep4_World_b0,gantkeep4_World_b1,go_sem,↓reduceIte,reduceCtorEq,Int.reduceLT,Int.reduceLE,Int.reduceToNat,Nat.reduceAdd,Nat.reduceMul,Nat.reduceLeDiff,Nat.reduceLT,Nat.reduceSub,Int.reduceNeg,Int.reduceEq,Int.reduceBEq,Int.reduceBNe,Nat.reduceEqDiff,smallV,la,lp,ls,hi',hN,e1,e2,hval,hn,hys,c1,c2,w1,w2,hz,hfr,ali,alb,r1,r2,hw,hf,u1,hne]
        exact ⟨_,pl ++ [N],sn ++ [_],upM N true ms,by rw [mapI_snoc,mapB_snoc],f1 _⟩
      · cases b
        · have f1 := fin N hX (.inr hlk)
          simp only [hne,decide_false,Bool.not_false] at f1
          simp -implicitDefEqProofs only [gantkeep4_World_b0,gantkeep4_World_b1,go_sem,↓reduceIte,reduceCtorEq,Int.reduceLT,Int.reduceLE,Int.reduceToNat,Nat.reduceAdd,Nat.reduceMul,Nat.reduceLeDiff,Nat.reduceLT,Nat.reduceSub,Int.reduceNeg,Int.reduceEq,Int.reduceBEq,Int.reduceBNe,Nat.reduceEqDiff,smallV,la,lp,ls,hi',hN,e1,e2,hval,hn,hys,c1,c2,w1,w2,hz,hfr,ali,alb,r1,r2,hw,hf,u1,hne]
          exact ⟨_,pl ++ [N],sn ++ [_],upM N true ms,by rw [mapI_snoc,mapB_snoc],f1 _⟩
        · simp -implicitDefEqProofs only [gantkeep4_World_b0,gantkeep4_World_b1,go_sem,↓reduceIte,reduceCtorEq,Int.reduceLT,Int.reduceLE,Int.reduceToNat,Nat.reduceAdd,Nat.reduceMul,Nat.reduceLeDiff,Nat.reduceLT,Nat.reduceSub,Int.reduceNeg,Int.reduceEq,Int.reduceBEq,Int.reduceBNe,Nat.reduceEqDiff,smallV,la,lp,ls,hi',hN,e1,e2,hval,hn,hys,c1,c2,w1,w2,hz,hfr,ali,alb,r1,r2,hw,hf,u0]
          exact ⟨_,pl ++ [-1],sn ++ [_],upM (-1) false ms,by rw [mapI_snoc,mapB_snoc],f0 _⟩
    · skip
      rcases find_enc (-1) ms with ⟨hf,hlk⟩ | ⟨b,hf,hlk⟩
      · simp -implicitDefEqProofs only [gantkeep4_World_b0,gantkeep4_World_b1,go_sem,↓reduceIte,reduceCtorEq,Int.reduceLT,Int.reduceLE,Int.reduceToNat,Nat.reduceAdd,Nat.reduceMul,Nat.reduceLeDiff,Nat.reduceLT,Nat.reduceSub,Int.reduceNeg,Int.reduceEq,Int.reduceBEq,Int.reduceBNe,Nat.reduceEqDiff,smallV,la,lp,ls,hi',hN,e1,e2,hn,hys,c1,c2,hz,hfr,ali,alb,r1,r2,hw,hf,u0]
        exact ⟨_,pl ++ [-1],sn ++ [_],upM (-1) false ms,by rw [mapI_snoc,mapB_snoc],f0 _⟩
      · cases b
        · simp -implicitDefEqProofs only [gantkeep4_World_b0,gantkeep4_World_b1,go_sem,↓reduceIte,reduceCtorEq,Int.reduceLT,Int.reduceLE,Int.reduceToNat,Nat.reduceAdd,Nat.reduceMul,Nat.reduceLeDiff,Nat.reduceLT,Nat.reduceSub,Int.reduceNeg,Int.reduceEq,Int.reduceBEq,Int.reduceBNe,Nat.reduceEqDiff,smallV,la,lp,ls,hi',hN,e1,e2,hn,hys,c1,c2,hz,hfr,ali,alb,r1,r2,hw,hf,u0]
          exact ⟨_,pl ++ [-1],sn ++ [_],upM (-1) false ms,by rw [mapI_snoc,mapB_snoc],f0 _⟩
        · simp -implicitDefEqProofs only [gantkeep4_World_b0,gantkeep4_World_b1,go_sem,↓reduceIte,reduceCtorEq,Int.reduceLT,Int.reduceLE,Int.reduceToNat,Nat.reduceAdd,Nat.reduceMul,Nat.reduceLeDiff,Nat.reduceLT,Nat.reduceSub,Int.reduceNeg,Int.reduceEq,Int.reduceBEq,Int.reduceBNe,Nat.reduceEqDiff,smallV,la,lp,ls,hi',hN,e1,e2,hn,hys,c1,c2,hz,hfr,ali,alb,r1,r2,hw,hf,u0]
          exact ⟨_,pl ++ [-1],sn ++ [_],upM (-1) false ms,by rw [mapI_snoc,mapB_snoc],f0 _⟩
  · rintro env h ⟨ys,pl,sn,ms0,rfl,rfl,hl1,hl2,hg,ht⟩
    simp -implicitDefEqProofs only [gantkeep4_World_b0,go_sem,↓reduceIte,reduceCtorEq,Int.reduceLT,Int.reduceLE,Int.reduceToNat,Nat.reduceAdd,Nat.reduceMul,Nat.reduceLeDiff,Nat.reduceLT,Nat.reduceSub,Int.reduceNeg,Int.reduceEq,Int.reduceBEq,Int.reduceBNe,Nat.reduceEqDiff,smallV,la,lp,ls,Int.lt_irrefl]
    rw [Sat_bind]
    generalize encM ms0 = ms0 at *
    clear ht
    refine loop_up (I := fun i env h => ∃ (ys : List Int) (sp : List Int) (ms : List (Int × Bool)),env = (VV.undef :: VV.undef :: (.ptr 0 0 : VV) :: VV.undef :: (.ptr 1 0 : VV) :: (.ptr 2 0 : VV) :: (.ptr 3 0 : VV) :: VV.undef :: VV.undef :: VV.undef :: (.map 5 : VV) :: VV.undef :: VV.undef :: VV.undef :: VV.undef :: VV.undef :: VV.undef :: VV.undef :: VV.undef :: VV.undef :: VV.undef :: VV.undef :: VV.undef :: VV.undef :: VV.undef :: VV.undef :: VV.undef :: VV.undef :: VV.undef :: VV.undef :: VV.undef :: VV.undef :: VV.undef :: VV.undef :: VV.undef :: VV.undef :: VV.undef :: VV.undef :: VV.undef :: VV.undef :: VV.undef :: VV.undef :: VV.undef :: VV.undef :: VV.undef :: VV.undef :: VV.undef :: VV.undef :: VV.undef :: VV.undef :: VV.undef :: VV.undef :: VV.undef :: VV.undef :: VV.undef :: VV.undef :: VV.undef :: VV.undef :: VV.undef :: VV.undef :: VV.undef :: VV.undef :: VV.undef :: VV.undef :: VV.undef :: VV.undef :: VV.undef :: VV.undef :: VV.undef :: VV.undef :: VV.undef :: VV.undef :: VV.undef :: VV.undef :: VV.undef :: VV.undef :: VV.undef :: VV.undef :: VV.undef :: VV.undef :: VV.undef :: (.int .i64 ((a : Nat) : Int) : VV) :: (.int .i64 ((i : Nat) : Int) : VV) :: VV.undef :: VV.undef :: VV.undef :: VV.undef :: VV.undef :: VV.undef :: VV.undef :: VV.undef :: VV.undef :: VV.undef :: VV.undef :: VV.undef :: VV.undef :: VV.undef :: VV.undef :: VV.undef :: VV.undef :: VV.undef :: VV.undef :: VV.undef :: VV.undef :: VV.undef :: VV.undef :: VV.undef :: VV.undef :: VV.undef :: VV.undef :: VV.undef :: VV.undef :: VV.undef :: VV.undef :: VV.undef :: VV.undef :: VV.undef :: VV.undef :: VV.undef :: VV.undef :: VV.undef :: VV.undef :: VV.undef :: VV.undef :: VV.undef :: VV.undef :: VV.undef :: VV.undef :: VV.undef :: VV.undef :: VV.undef :: []) ∧ h = [.cells true (smallV a p s),.cells true [.int .i64 0,.list .o [],.list .o [],.list .o []],.cells true [.list .s (ys.map fun x => [.int .i64 x])],.cells true [.int .i64 s,.list .o (pl.map fI),.list .o (sn.map fB),.list .o (sp.map fI)],.map ms0,.map (encM ms)] ∧
      sp.length = i ∧ goodL (fun x => -1 ≤ x ∧ ¬ ((s : Int) ≤ x ∧ x < 8) ∧ x < 8 + (p : Int)) sp ∧ tabM ms sp) a ?_ ?_ (Nat.zero_le _) ⟨ys,[],[],by simp -implicitDefEqProofs only [go_sem,↓reduceIte,reduceCtorEq,Int.reduceLT,Int.reduceLE,Int.reduceToNat,Nat.reduceAdd,Nat.reduceMul,Nat.reduceLeDiff,Nat.reduceLT,Nat.reduceSub,Int.reduceNeg,Int.reduceEq,Int.reduceBEq,Int.reduceBNe,Nat.reduceEqDiff],by simp -implicitDefEqProofs only [go_sem,↓reduceIte,reduceCtorEq,Int.reduceLT,Int.reduceLE,Int.reduceToNat,Nat.reduceAdd,Nat.reduceMul,Nat.reduceLeDiff,Nat.reduceLT,Nat.reduceSub,Int.reduceNeg,Int.reduceEq,Int.reduceBEq,Int.reduceBNe,Nat.reduceEqDiff,smallV,la,lp,ls,encM],rfl,goodL_nil _,tab_nil⟩
    · rintro i env h hi ⟨ys,sp,ms,rfl,rfl,hl3,hg3,ht⟩
      have hi' : (i : Int) < ((a : Nat) : Int) := by omega
      have hw := wrap_succ (i := i) (by omega)
      have b1 := nxt_bnd ys (s + p + 1) (by omega) (by omega)
      have ali := all_len (F := fI) (es := 1) (fun _ => rfl) sp
      have r1 : (sp.length + 1 + 512) * 8 ≤ 140737488355328 := by have := (small (sp.map fI) (by rw [List.length_map]; omega)).1; rwa [List.length_map] at this
      generalize hys : (nxt ys (s + p + 1)).2 = ys1 at *
      have fin : ∀ X : Int,(-1 ≤ X ∧ ¬ ((s : Int) ≤ X ∧ X < 8) ∧ X < 8 + (p : Int)) → (X = -1 ∨ lkM X ms = false) → (sp ++ [X]).length = i + 1 ∧ goodL (fun x => -1 ≤ x ∧ ¬ ((s : Int) ≤ x ∧ x < 8) ∧ x < 8 + (p : Int)) (sp ++ [X]) ∧ tabM (upM X (!decide (X = -1)) ms) (sp ++ [X]) := by
        intro X hX hn
        refine ⟨by simp [hl3],goodL_snoc hg3 hX ?_,tab_snoc ht X⟩
        rcases hn with h | h
        · exact .inl h
        · by_cases e : X = -1
          · exact .inl e
          · exact .inr fun hm => by have := (ht X).2 ⟨e,hm⟩; rw [h] at this; cases this
      have u0 := upd_enc (-1) false ms
      have f0 := fin (-1) ⟨by omega,by omega,by omega⟩ (.inl rfl)
      generalize hn : (nxt ys (s + p + 1)).1 = n at *
      simp only [decide_true,Bool.not_true] at f0
      by_cases c1 : (s : Int) + p ≤ n
      · skip
        rcases find_enc (-1) ms with ⟨hf,hlk⟩ | ⟨b,hf,hlk⟩
        · simp -implicitDefEqProofs only [gantkeep4_World_b0,gantkeep4_World_b1,go_sem,↓reduceIte,reduceCtorEq,Int.reduceLT,Int.reduceLE,Int.reduceToNat,Nat.reduceAdd,Nat.reduceMul,Nat.reduceLeDiff,Nat.reduceLT,Nat.reduceSub,Int.reduceNeg,Int.reduceEq,Int.reduceBEq,Int.reduceBNe,Nat.reduceEqDiff,smallV,la,lp,ls,hi',hN,e3,e4,hn,hys,c1,hz,hfr,ali,r1,hw,hf,u0]
          exact ⟨_,sp ++ [-1],upM (-1) false ms,by rw [mapI_snoc],f0⟩
        · cases b
          · simp -implicitDefEqProofs only [gantkeep4_World_b0,gantkeep4_World_b1,go_sem,↓reduceIte,reduceCtorEq,Int.reduceLT,Int.reduceLE,Int.reduceToNat,Nat.reduceAdd,Nat.reduceMul,Nat.reduceLeDiff,Nat.reduceLT,Nat.reduceSub,Int.reduceNeg,Int.reduceEq,Int.reduceBEq,Int.reduceBNe,Nat.reduceEqDiff,smallV,la,lp,ls,hi',hN,e3,e4,hn,hys,c1,hz,hfr,ali,r1,hw,hf,u0]
            exact ⟨_,sp ++ [-1],upM (-1) false ms,by rw [mapI_snoc],f0⟩
          · simp -implicitDefEqProofs only [gantkeep4_World_b0,gantkeep4_World_b1,go_sem,↓reduceIte,reduceCtorEq,Int.reduceLT,Int.reduceLE,Int.reduceToNat,Nat.reduceAdd,Nat.reduceMul,Nat.reduceLeDiff,Nat.reduceLT,Nat.reduceSub,Int.reduceNeg,Int.reduceEq,Int.reduceBEq,Int.reduceBNe,Nat.reduceEqDiff,smallV,la,lp,ls,hi',hN,e3,e4,hn,hys,c1,hz,hfr,ali,r1,hw,hf,u0]
            exact ⟨_,sp ++ [-1],upM (-1) false ms,by rw [mapI_snoc],f0⟩
      by_cases c2 : (s : Int) ≤ n
      · have w1 : IntKind.i64.wrap (8 - s) = 8 - s := wrap_id (by omega) (by omega)
        have w2 : IntKind.i64.wrap (n + (8 - s)) = n + (8 - s) := wrap_id (by omega) (by omega)
        have hX : -1 ≤ n + (8 - s) ∧ ¬ ((s : Int) ≤ n + (8 - s) ∧ n + (8 - s) < 8) ∧ n + (8 - s) < 8 + (p : Int) := by omega
        have hne : ¬ n + (8 - s) = -1 := by omega
        generalize hval : n + (8 - s) = N at *
        have u1 := upd_enc N true ms
        rcases find_enc N ms with ⟨hf,hlk⟩ | ⟨b,hf,hlk⟩
        · have f1 := fin N hX (.inr hlk)
          simp only [hne,decide_false,Bool.not_false] at f1
          simp -implicitDefEqProofs only [gantkeep4_World_b0,gantkeep4_World_b1,go_sem,↓reduceIte,reduceCtorEq,Int.reduceLT,Int.reduceLE,Int.reduceToNat,Nat.reduceAdd,Nat.reduceMul,Nat.reduceLeDiff,Nat.reduceLT,Nat.reduceSub,Int.reduceNeg,Int.reduceEq,Int.reduceBEq,Int.reduceBNe,Nat.reduceEqDiff,smallV,la,lp,ls,hi',hN,e3,e4,hn,hys,hval,c1,c2,w1,w2,hz,hfr,ali,r1,hw,hf,u1,hne]
          exact ⟨_,sp ++ [N],upM N true ms,by rw [mapI_snoc],f1⟩
        · cases b
          · have f1 := fin N hX (.inr hlk)
            simp only [hne,decide_false,Bool.not_false] at f1
            simp -implicitDefEqProofs only [gantkeep4_World_b0,gantkeep4_World_b1,go_sem,↓reduceIte,reduceCtorEq,Int.reduceLT,Int.reduceLE,Int.reduceToNat,Nat.reduceAdd,Nat.reduceMul,Nat.reduceLeDiff,Nat.reduceLT,Nat.reduceSub,Int.reduceNeg,Int.reduceEq,Int.reduceBEq,Int.reduceBNe,Nat.reduceEqDiff,smallV,la,lp,ls,hi',hN,e3,e4,hn,hys,hval,c1,c2,w1,w2,hz,hfr,ali,r1,hw,hf,u1,hne]
            exact ⟨_,sp ++ [N],upM N true ms,by rw [mapI_snoc],f1⟩
          · simp -implicitDefEqProofs only [gantkeep4_World_b0,gantkeep4_World_b1,go_sem,↓reduceIte,reduceCtorEq,Int.reduceLT,Int.reduceLE,Int.reduceToNat,Nat.reduceAdd,Nat.reduceMul,Nat.reduceLeDiff,Nat.reduceLT,Nat.reduceSub,Int.reduceNeg,Int.reduceEq,Int.reduceBEq,Int.reduceBNe,Nat.reduceEqDiff,smallV,la,lp,ls,hi',hN,e3,e4,hn,hys,hval,c1,c2,w1,w2,hz,hfr,ali,r1,hw,hf,u0]
            exact ⟨_,sp ++ [-1],upM (-1) false ms,by rw [mapI_snoc],f0⟩
      · have hX : -1 ≤ n ∧ ¬ ((s : Int) ≤ n ∧ n < 8) ∧ n < 8 + (p : Int) := by omega
        have hne : ¬ n = -1 := by omega
        have u1 := upd_enc n true ms
        rcases find_enc n ms with ⟨hf,hlk⟩ | ⟨b,hf,hlk⟩
        · have f1 := fin n hX (.inr hlk)
          simp only [hne,decide_false,Bool.not_false] at f1
          simp -implicitDefEqProofs only [gantkeep4_World_b0,gantkeep4_World_b1,go_sem,↓reduceIte,reduceCtorEq,Int.reduceLT,Int.reduceLE,Int.reduceToNat,Nat.reduceAdd,Nat.reduceMul,Nat.reduceLeDiff,Nat.reduceLT,Nat.reduceSub,Int.reduceNeg,Int.reduceEq,Int.reduceBEq,Int.reduceBNe,Nat.reduceEqDiff,smallV,la,lp,ls,hi',hN,e3,e4,hn,hys,c1,c2,hz,hfr,ali,r1,hw,hf,u1,hne]
          exact ⟨_,sp ++ [n],upM n true ms,by rw [mapI_snoc],f1⟩
        · cases b
          · have f1 := fin n hX (.inr hlk)
            simp only [hne,decide_false,Bool.not_false] at f1
            simp -implicitDefEqProofs only [gantkeep4_World_b0,gantkeep4_World_b1,go_sem,↓reduceIte,reduceCtorEq,Int.reduceLT,Int.reduceLE,Int.reduceToNat,Nat.reduceAdd,Nat.reduceMul,Nat.reduceLeDiff,Nat.reduceLT,Nat.reduceSub,Int.reduceNeg,Int.reduceEq,Int.reduceBEq,Int.reduceBNe,Nat.reduceEqDiff,smallV,la,lp,ls,hi',hN,e3,e4,hn,hys,c1,c2,hz,hfr,ali,r1,hw,hf,u1,hne]
            exact ⟨_,sp ++ [n],upM n true ms,by rw [mapI_snoc],f1⟩
          · simp -implicitDefEqProofs only [gantkeep4_World_b0,gantkeep4_World_b1,go_sem,↓reduceIte,reduceCtorEq,Int.reduceLT,Int.reduceLE,Int.reduceToNat,Nat.reduceAdd,Nat.reduceMul,Nat.reduceLeDiff,Nat.reduceLT,Nat.reduceSub,Int.reduceNeg,Int.reduceEq,Int.reduceBEq,Int.reduceBNe,Nat.reduceEqDiff,smallV,la,lp,ls,hi',hN,e3,e4,hn,hys,c1,c2,hz,hfr,ali,r1,hw,hf,u0]
            exact ⟨_,sp ++ [-1],upM (-1) false ms,by rw [mapI_snoc],f0⟩
    · rintro env h ⟨ys,sp,ms,rfl,rfl,hl3,hg3,ht⟩
      have := hP1 pl sn sp hg hl1 hl2 hl3 hg3
      simp -implicitDefEqProofs only [gantkeep4_World_b0,gantkeep4_World_b1,go_sem,↓reduceIte,reduceCtorEq,Int.reduceLT,Int.reduceLE,Int.reduceToNat,Nat.reduceAdd,Nat.reduceMul,Nat.reduceLeDiff,Nat.reduceLT,Nat.reduceSub,Int.reduceNeg,Int.reduceEq,Int.reduceBEq,Int.reduceBNe,Nat.reduceEqDiff,Int.lt_irrefl]
      simpa only [fW] using this
end Vg.G3
