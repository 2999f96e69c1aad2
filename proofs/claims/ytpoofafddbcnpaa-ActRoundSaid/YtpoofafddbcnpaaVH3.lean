import Derived.Test.YtpoofafddbcnpaaVG3
import Derived.Test.YtpoofafddbcnpaaVVgRows
import Derived.Test.YtpoofafddbcnpaaVVgLib
import Derived.Test.YtpoofafddbcnpaaVVgHeap
namespace Vg.G3
open Go Lg
set_option linter.unusedSimpArgs false
set_option linter.unusedVariables false
set_option maxRecDepth 10000
set_option maxHeartbeats 2000000
attribute [local congr] bind_congr1
attribute [local go_sem] slices_Index_intint_r0 slices_Index_intint_r1 slices_Index_intint_r2 slices_Index_intint_r3 slices_Index_intint_r4 slices_Index_intint_r5 slices_Index_intint_r6 slices_Index_intint_r7 slices_Index_intint_f slices_Index_intint_v slices_Contains_intint_r0 slices_Contains_intint_r1 slices_Contains_intint_f slices_Contains_intint_v act_Held_r0 act_Held_r1 act_Held_f act_Held_v act_Holds_r0 act_Holds_r1 act_Holds_r2 act_Holds_r3 act_Holds_r3_d act_Holds_f act_Holds_v act_Where_r0 act_Where_r1 act_Where_r2 act_Where_r3 act_Where_r4 act_Where_r5 act_Where_f act_Where_v act_In_r0 act_In_r1 act_In_r2 act_In_r3 act_In_f act_In_v act_target_r0 act_target_r1 act_target_r2 act_target_r3 act_target_f act_target_v

def fI (x : Int) : List VV := [.int .i64 x]
def fB (b : Bool) : List VV := [.bool b]
/-- What is known of the parts and arms of a works. -/
structure Wd where
  sl : Int
  pl : List Int
  sn : List Bool
  sp : List Int
  deriving DecidableEq
structure Stp where
  k : Int
  a : Int
  p : Int
  s : Int
  t : Int
  deriving DecidableEq
def fW (w : Wd) : List VV := [.int .i64 w.sl,.list .s (w.pl.map fI),.list .s (w.sn.map fB),.list .s (w.sp.map fI)]
def fS (s : Stp) : List VV := [.int .i64 s.k,.int .i64 s.a,.int .i64 s.p,.int .i64 s.s,.int .i64 s.t]

/-- The first place of a number,or -1. -/
def idxI : List Int → Int → Int
  | [],_ => -1
  | y :: r,x => if y = x then 0 else if idxI r x < 0 then -1 else idxI r x + 1
theorem idx_ge : ∀ (l : List Int) (x : Int), -1 ≤ idxI l x ∧ idxI l x < l.length
  | [],x => by simp [idxI]
  | y :: r,x => by
    have := idx_ge r x
    simp only [idxI,List.length_cons]
    split
    · omega
    · split <;> omega
theorem idx_none : ∀ (l : List Int) (x : Int),(∀ (j : Nat) (y : Int),l[j]? = some y → y ≠ x) → idxI l x = -1
  | [],x,_ => rfl
  | y :: r,x,h => by
    have h1 := h 0 y rfl
    have h2 := idx_none r x fun j z hz => h (j + 1) z (by simpa using hz)
    simp only [idxI,if_neg h1,h2]
    rfl
theorem idx_some : ∀ (l : List Int) (x : Int) (i : Nat),l[i]? = some x → (∀ (j : Nat) (y : Int),j < i → l[j]? = some y → y ≠ x) → idxI l x = i
  | [],x,i,h,_ => by simp at h
  | y :: r,x,0,h,_ => by simp at h; simp [idxI,h]
  | y :: r,x,i + 1,h,hn => by
    have h1 := hn 0 y (by omega) rfl
    have h2 := idx_some r x i (by simpa using h) fun j z hj hz => hn (j + 1) z (by omega) (by simpa using hz)
    simp only [idxI,if_neg h1,h2]
    rw [if_neg (by omega)]; rfl
theorem idx_mem (l : List Int) (x : Int) : 0 ≤ idxI l x ↔ x ∈ l := by
  induction l with
  | nil => simp [idxI]
  | cons y r ih =>
    simp only [idxI,List.mem_cons]
    by_cases h : y = x
    · rw [if_pos h]; simp [h]
    · rw [if_neg h]
      have h' : ¬ x = y := fun e => h e.symm
      by_cases h2 : idxI r x < 0
      · rw [if_pos h2]
        have : ¬ x ∈ r := fun hm => by have := ih.2 hm; omega
        simp [h',this]
      · rw [if_neg h2]
        have : x ∈ r := ih.1 (by omega)
        simp [this]; omega
theorem Index_i (l : List Int) (x : Int) (hl : l.length ≤ 100000) (lo : Nat) (h : VHeap) : callVL vp lo n_slices_Index_intint [.list .s (l.map fI),.int .i64 x] h = some (.int .i64 (idxI l x),h) := by
  refine call_valE (fn := slices_Index_intint_v) rfl rfl rfl rfl rfl ?_ lo h
  generalize hT : idxI l x = T
  obtain ⟨P,hP⟩ : ∃ P : VV → Prop,P = fun w : VV => w = .int .i64 T := ⟨_,rfl⟩
  have hP1 : P (.int .i64 T) := by subst hP; rfl
  have hP2 : (fun r : VV × VHeap => r.1 = .int .i64 T) = fun r => P r.1 := by subst hP; rfl
  rw [hP2]
  clear hP hP2
  simp -implicitDefEqProofs only [go_sem,↓reduceIte,reduceCtorEq,Int.reduceLT,Int.reduceLE,Int.reduceToNat,Nat.reduceAdd,Nat.reduceMul,Nat.reduceLeDiff,Nat.reduceLT,Nat.reduceSub,Int.reduceNeg,Int.reduceEq,Int.reduceBEq,Int.reduceBNe,Nat.reduceEqDiff]
  rw [Sat_bind]
  refine loop_up (I := fun i env h' => h' = [] ∧ (∀ j y,j < i → l[j]? = some y → y ≠ x) ∧ env = [.list .s (l.map fI),.int .i64 x,.undef,.undef,.undef,.undef,.undef,.int .i64 ((l.length : Nat) : Int),.int .i64 ((i : Nat) : Int),.undef,.undef,.undef,.undef,.undef,.undef,.undef,.undef,.undef,.undef]) l.length ?_ ?_ (Nat.zero_le _) ⟨rfl,fun j g hj => absurd hj (Nat.not_lt_zero j),by simp -implicitDefEqProofs only [go_sem,↓reduceIte,reduceCtorEq,Int.reduceLT,Int.reduceLE,Int.reduceToNat,Nat.reduceAdd,Nat.reduceMul,Nat.reduceLeDiff,Nat.reduceLT,Nat.reduceSub,Int.reduceNeg,Int.reduceEq,Int.reduceBEq,Int.reduceBNe,Nat.reduceEqDiff]⟩
  · rintro i env h' hi ⟨rfl,hA,rfl⟩
    obtain ⟨y,hy⟩ := get_some hi
    have hi' : (i : Int) < (l.length : Int) := by omega
    have hw := wrap_succ (i := i) (by omega)
    have hg := get_map (F := fI) hy
    simp only [fI] at hg
    by_cases e : x = y
    · subst e
      obtain rfl : (i : Int) = T := by rw [← hT]; exact (idx_some l x i hy hA).symm
      simp -implicitDefEqProofs only [slices_Index_intint_b0,go_sem,↓reduceIte,reduceCtorEq,Int.reduceLT,Int.reduceLE,Int.reduceToNat,Nat.reduceAdd,Nat.reduceMul,Nat.reduceLeDiff,Nat.reduceLT,Nat.reduceSub,Int.reduceNeg,Int.reduceEq,Int.reduceBEq,Int.reduceBNe,Nat.reduceEqDiff,hi',hg,hw]
      exact hP1
    · simp -implicitDefEqProofs only [slices_Index_intint_b0,go_sem,↓reduceIte,reduceCtorEq,Int.reduceLT,Int.reduceLE,Int.reduceToNat,Nat.reduceAdd,Nat.reduceMul,Nat.reduceLeDiff,Nat.reduceLT,Nat.reduceSub,Int.reduceNeg,Int.reduceEq,Int.reduceBEq,Int.reduceBNe,Nat.reduceEqDiff,hi',hg,hw,e]
      intro j z hj hz
      rcases Nat.lt_succ_iff_lt_or_eq.1 hj with hj | rfl
      · exact hA j z hj hz
      · rw [hy] at hz; cases hz; exact fun h => e h.symm
  · rintro env h' ⟨rfl,hA,rfl⟩
    obtain rfl : -1 = T := by rw [← hT]; exact (idx_none l x fun j y hy => hA j y (lt_of_getElem? hy) hy).symm
    simp -implicitDefEqProofs only [slices_Index_intint_b0,go_sem,↓reduceIte,reduceCtorEq,Int.reduceLT,Int.reduceLE,Int.reduceToNat,Nat.reduceAdd,Nat.reduceMul,Nat.reduceLeDiff,Nat.reduceLT,Nat.reduceSub,Int.reduceNeg,Int.reduceEq,Int.reduceBEq,Int.reduceBNe,Nat.reduceEqDiff,Int.lt_irrefl]
    exact hP1
theorem Contains_i (l : List Int) (x : Int) (hl : l.length ≤ 100000) (lo : Nat) (h : VHeap) : callVL vp lo n_slices_Contains_intint [.list .s (l.map fI),.int .i64 x] h = some (.bool (decide (x ∈ l)),h) := by
  refine call_valE (fn := slices_Contains_intint_v) rfl rfl rfl rfl rfl ?_ lo h
  have hI := Index_i l x hl
  have hm := idx_mem l x
  by_cases h0 : x ∈ l
  · have h1 := hm.2 h0
    simp -implicitDefEqProofs only [go_sem,↓reduceIte,reduceCtorEq,Int.reduceLT,Int.reduceLE,Int.reduceToNat,Nat.reduceAdd,Nat.reduceMul,Nat.reduceLeDiff,Nat.reduceLT,Nat.reduceSub,Int.reduceNeg,Int.reduceEq,Int.reduceBEq,Int.reduceBNe,Nat.reduceEqDiff,hI,h0,h1]
  · have h1 : ¬ 0 ≤ idxI l x := fun h => h0 (hm.1 h)
    simp -implicitDefEqProofs only [go_sem,↓reduceIte,reduceCtorEq,Int.reduceLT,Int.reduceLE,Int.reduceToNat,Nat.reduceAdd,Nat.reduceMul,Nat.reduceLeDiff,Nat.reduceLT,Nat.reduceSub,Int.reduceNeg,Int.reduceEq,Int.reduceBEq,Int.reduceBNe,Nat.reduceEqDiff,hI,h0,h1]
theorem Held_spec (a : Int) (h1 : 0 ≤ a) (h2 : a ≤ 100000) (lo : Nat) (h : VHeap) : callVL vp lo n_act_Held [.int .i64 a] h = some (.int .i64 (-2 - a),h) := by
  refine call_valE (fn := act_Held_v) rfl rfl rfl rfl rfl ?_ lo h
  have hw : IntKind.i64.wrap (-2 - a) = -2 - a := wrap_id (by omega) (by omega)
  simp -implicitDefEqProofs only [go_sem,↓reduceIte,reduceCtorEq,Int.reduceLT,Int.reduceLE,Int.reduceToNat,Nat.reduceAdd,Nat.reduceMul,Nat.reduceLeDiff,Nat.reduceLT,Nat.reduceSub,Int.reduceNeg,Int.reduceEq,Int.reduceBEq,Int.reduceBNe,Nat.reduceEqDiff,hw]
structure Small (w : Wd) : Prop where
  sl0 : 0 ≤ w.sl
  sl8 : w.sl ≤ 8
  pl : w.pl.length ≤ 6
  sp : w.sp.length ≤ 4
  sn : w.sn.length = w.pl.length
def holdsF (w : Wd) (a : Int) : Int := if a < 0 ∨ (w.sp.length : Int) ≤ a then -1 else idxI w.pl (-2 - a)
theorem Holds_spec {w : Wd} (hs : Small w) (a : Int) (lo : Nat) (h : VHeap) : callVL vp lo n_act_Holds [.agg (fW w),.int .i64 a] h = some (.int .i64 (holdsF w a),h) := by
  refine call_valE (fn := act_Holds_v) rfl rfl rfl rfl rfl ?_ lo h
  have h1 := hs.sp
  have h2 := hs.pl
  by_cases ha : a < 0
  · have : holdsF w a = -1 := if_pos (.inl ha)
    rw [this]
    simp -implicitDefEqProofs only [go_sem,↓reduceIte,reduceCtorEq,Int.reduceLT,Int.reduceLE,Int.reduceToNat,Nat.reduceAdd,Nat.reduceMul,Nat.reduceLeDiff,Nat.reduceLT,Nat.reduceSub,Int.reduceNeg,Int.reduceEq,Int.reduceBEq,Int.reduceBNe,Nat.reduceEqDiff,fW,ha]
  · by_cases hb : (w.sp.length : Int) ≤ a
    · have : holdsF w a = -1 := if_pos (.inr hb)
      rw [this]
      simp -implicitDefEqProofs only [go_sem,↓reduceIte,reduceCtorEq,Int.reduceLT,Int.reduceLE,Int.reduceToNat,Nat.reduceAdd,Nat.reduceMul,Nat.reduceLeDiff,Nat.reduceLT,Nat.reduceSub,Int.reduceNeg,Int.reduceEq,Int.reduceBEq,Int.reduceBNe,Nat.reduceEqDiff,fW,ha,hb]
    · have : holdsF w a = idxI w.pl (-2 - a) := if_neg (by omega)
      rw [this]
      have hH := Held_spec a (by omega) (by omega)
      have hI := Index_i w.pl (-2 - a) (by omega)
      simp -implicitDefEqProofs only [go_sem,↓reduceIte,reduceCtorEq,Int.reduceLT,Int.reduceLE,Int.reduceToNat,Nat.reduceAdd,Nat.reduceMul,Nat.reduceLeDiff,Nat.reduceLT,Nat.reduceSub,Int.reduceNeg,Int.reduceEq,Int.reduceBEq,Int.reduceBNe,Nat.reduceEqDiff,fW,ha,hb,hH,hI]
def gI (l : List Int) (i : Int) : Int := (l[i.toNat]?).getD 0
theorem gI_get {l : List Int} {i : Int} (h0 : 0 ≤ i) (hi : i < l.length) : l[i.toNat]? = some (gI l i) := by
  obtain ⟨x,hx⟩ := get_some (xs := l) (i := i.toNat) (by omega)
  unfold gI; rw [hx]; rfl
def gB (l : List Bool) (i : Int) : Bool := (l[i.toNat]?).getD false
theorem gB_get {l : List Bool} {i : Int} (h0 : 0 ≤ i) (hi : i < l.length) : l[i.toNat]? = some (gB l i) := by
  obtain ⟨x,hx⟩ := get_some (xs := l) (i := i.toNat) (by omega)
  unfold gB; rw [hx]; rfl
def whereF (w : Wd) (p : Int) : Int := if p < 0 ∨ (w.pl.length : Int) ≤ p then -1 else if gI w.pl p < -1 then -1 else if gI w.pl p = -1 then 8 + p else gI w.pl p
theorem Where_spec {w : Wd} (hs : Small w) (p : Int) (lo : Nat) (h : VHeap) : callVL vp lo n_act_Where [.agg (fW w),.int .i64 p] h = some (.int .i64 (whereF w p),h) := by
  refine call_valE (fn := act_Where_v) rfl rfl rfl rfl rfl ?_ lo h
  have h2 := hs.pl
  by_cases ha : p < 0
  · have : whereF w p = -1 := if_pos (.inl ha)
    rw [this]
    simp -implicitDefEqProofs only [go_sem,↓reduceIte,reduceCtorEq,Int.reduceLT,Int.reduceLE,Int.reduceToNat,Nat.reduceAdd,Nat.reduceMul,Nat.reduceLeDiff,Nat.reduceLT,Nat.reduceSub,Int.reduceNeg,Int.reduceEq,Int.reduceBEq,Int.reduceBNe,Nat.reduceEqDiff,fW,ha]
  by_cases hb : (w.pl.length : Int) ≤ p
  · have : whereF w p = -1 := if_pos (.inr hb)
    rw [this]
    simp -implicitDefEqProofs only [go_sem,↓reduceIte,reduceCtorEq,Int.reduceLT,Int.reduceLE,Int.reduceToNat,Nat.reduceAdd,Nat.reduceMul,Nat.reduceLeDiff,Nat.reduceLT,Nat.reduceSub,Int.reduceNeg,Int.reduceEq,Int.reduceBEq,Int.reduceBNe,Nat.reduceEqDiff,fW,ha,hb]
  have hw : whereF w p = if gI w.pl p < -1 then -1 else if gI w.pl p = -1 then 8 + p else gI w.pl p := if_neg (by omega)
  rw [hw]
  have h0 : (0 : Int) ≤ p := by omega
  have hlt : p < (w.pl.length : Int) := by omega
  have hg := get_map (F := fI) (gI_get h0 hlt)
  have hwr : IntKind.i64.wrap (8 + p) = 8 + p := wrap_id (by omega) (by omega)
  simp only [fI] at hg
  generalize gI w.pl p = g at *
  by_cases h1 : g < -1
  · simp -implicitDefEqProofs only [go_sem,↓reduceIte,reduceCtorEq,Int.reduceLT,Int.reduceLE,Int.reduceToNat,Nat.reduceAdd,Nat.reduceMul,Nat.reduceLeDiff,Nat.reduceLT,Nat.reduceSub,Int.reduceNeg,Int.reduceEq,Int.reduceBEq,Int.reduceBNe,Nat.reduceEqDiff,fW,ha,hb,h0,hlt,hg,h1]
  · by_cases h3 : g = -1
    · subst h3
      simp -implicitDefEqProofs only [go_sem,↓reduceIte,reduceCtorEq,Int.reduceLT,Int.reduceLE,Int.reduceToNat,Nat.reduceAdd,Nat.reduceMul,Nat.reduceLeDiff,Nat.reduceLT,Nat.reduceSub,Int.reduceNeg,Int.reduceEq,Int.reduceBEq,Int.reduceBNe,Nat.reduceEqDiff,fW,ha,hb,h0,hlt,hg,h1,hwr]
    · simp -implicitDefEqProofs only [go_sem,↓reduceIte,reduceCtorEq,Int.reduceLT,Int.reduceLE,Int.reduceToNat,Nat.reduceAdd,Nat.reduceMul,Nat.reduceLeDiff,Nat.reduceLT,Nat.reduceSub,Int.reduceNeg,Int.reduceEq,Int.reduceBEq,Int.reduceBNe,Nat.reduceEqDiff,fW,ha,hb,h0,hlt,hg,h1,h3]
def inF (w : Wd) (s : Int) : Int := if s < 0 then -1 else idxI w.pl s
theorem In_spec {w : Wd} (hs : Small w) (s : Int) (lo : Nat) (h : VHeap) : callVL vp lo n_act_In [.agg (fW w),.int .i64 s] h = some (.int .i64 (inF w s),h) := by
  refine call_valE (fn := act_In_v) rfl rfl rfl rfl rfl ?_ lo h
  have h2 := hs.pl
  have hI := Index_i w.pl s (by omega)
  by_cases ha : s < 0
  · have : inF w s = -1 := if_pos ha
    rw [this]
    simp -implicitDefEqProofs only [go_sem,↓reduceIte,reduceCtorEq,Int.reduceLT,Int.reduceLE,Int.reduceToNat,Nat.reduceAdd,Nat.reduceMul,Nat.reduceLeDiff,Nat.reduceLT,Nat.reduceSub,Int.reduceNeg,Int.reduceEq,Int.reduceBEq,Int.reduceBNe,Nat.reduceEqDiff,fW,ha]
  · have : inF w s = idxI w.pl s := if_neg ha
    rw [this]
    simp -implicitDefEqProofs only [go_sem,↓reduceIte,reduceCtorEq,Int.reduceLT,Int.reduceLE,Int.reduceToNat,Nat.reduceAdd,Nat.reduceMul,Nat.reduceLeDiff,Nat.reduceLT,Nat.reduceSub,Int.reduceNeg,Int.reduceEq,Int.reduceBEq,Int.reduceBNe,Nat.reduceEqDiff,fW,ha,hI]
def targetF (w : Wd) (s : Stp) : Int := if 0 ≤ s.p then whereF w s.p else s.s
theorem target_spec {w : Wd} (hs : Small w) (s : Stp) (lo : Nat) (h : VHeap) : callVL vp lo n_act_target [.agg (fW w),.agg (fS s)] h = some (.int .i64 (targetF w s),h) := by
  refine call_valE (fn := act_target_v) rfl rfl rfl rfl rfl ?_ lo h
  have hW := Where_spec hs s.p
  simp only [fW] at hW
  unfold targetF
  by_cases h0 : 0 ≤ s.p
  · rw [if_pos h0]; simp -implicitDefEqProofs only [go_sem,↓reduceIte,reduceCtorEq,Int.reduceLT,Int.reduceLE,Int.reduceToNat,Nat.reduceAdd,Nat.reduceMul,Nat.reduceLeDiff,Nat.reduceLT,Nat.reduceSub,Int.reduceNeg,Int.reduceEq,Int.reduceBEq,Int.reduceBNe,Nat.reduceEqDiff,fW,fS,h0,hW]
  · rw [if_neg h0]; simp -implicitDefEqProofs only [go_sem,↓reduceIte,reduceCtorEq,Int.reduceLT,Int.reduceLE,Int.reduceToNat,Nat.reduceAdd,Nat.reduceMul,Nat.reduceLeDiff,Nat.reduceLT,Nat.reduceSub,Int.reduceNeg,Int.reduceEq,Int.reduceBEq,Int.reduceBNe,Nat.reduceEqDiff,fW,fS,h0]
end Vg.G3
namespace Vg.G3
open Go Lg
set_option linter.unusedSimpArgs false
set_option linter.unusedVariables false
set_option maxRecDepth 10000
set_option maxHeartbeats 2000000
attribute [local congr] bind_congr1
attribute [local go_sem] act_Check_r0 act_Check_r1 act_Check_r2 act_Check_r3 act_Check_r4 act_Check_r5 act_Check_r6 act_Check_r7 act_Check_r8 act_Check_r9 act_Check_r10 act_Check_r11 act_Check_r12 act_Check_r13 act_Check_r14 act_Check_r15 act_Check_r16 act_Check_r17 act_Check_r18 act_Check_r19 act_Check_r20 act_Check_r21 act_Check_f act_Check_v act_Held_r0 act_Held_r1 act_Held_f act_Held_v

def okP (w : Wd) (i : Nat) (x : Int) : Prop := -1 - (w.sp.length : Int) ≤ x ∧ x < w.sl ∧ (x = -1 ∨ x ∉ w.pl.take i)
def okS (w : Wd) (i : Nat) (x : Int) : Prop := -1 ≤ x ∧ ¬ (w.sl ≤ x ∧ x < 8) ∧ x < 8 + (w.pl.length : Int) ∧ (x = -1 ∨ x ∉ w.sp.take i)
/-- A world that is valid. -/
structure Ok (w : Wd) : Prop extends Small w where
  p1 : ∀ (i : Nat) (x : Int),w.pl[i]? = some x → okP w i x
  s1 : ∀ (i : Nat) (x : Int),w.sp[i]? = some x → okS w i x
theorem take_fI (l : List Int) (i : Nat) : (l.map fI).take i = (l.take i).map fI := List.map_take.symm
theorem Check_spec (w : Wd) (hpl : w.pl.length ≤ 1000) (hsp : w.sp.length ≤ 1000) (hsn : w.sn.length ≤ 1000) : ∃ e : Int,(e = 0 ↔ Ok w) ∧ ∀ lo h,callVL vp lo n_act_Check [.agg (fW w)] h = some (.int .i64 e,h) := by
  obtain ⟨P,hP⟩ : ∃ P : VV → Prop,P = fun v : VV => ∃ e : Int,(e = 0 ↔ Ok w) ∧ v = .int .i64 e := ⟨_,rfl⟩
  have key := call_val (p := vp) (f := n_act_Check) (fn := act_Check_v) (args := [.agg (fW w)]) (P := P) rfl rfl rfl rfl rfl ?_
  · obtain ⟨v,hv,hc⟩ := key; subst hP; obtain ⟨e,he,rfl⟩ := hv; exact ⟨e,he,hc⟩
  have hP0 : Ok w → P (.int .i64 0) := fun h => by subst hP; exact ⟨0,⟨fun _ => h,fun _ => rfl⟩,rfl⟩
  have hP1 : ∀ e : Int,e ≠ 0 → ¬ Ok w → P (.int .i64 e) := fun e he h => by subst hP; exact ⟨e,⟨fun h0 => absurd h0 he,fun h0 => absurd h0 h⟩,rfl⟩
  clear hP
  by_cases h1 : w.sl < 0
  · simp -implicitDefEqProofs only [act_Check_b0,act_Check_b1,go_sem,↓reduceIte,reduceCtorEq,Int.reduceLT,Int.reduceLE,Int.reduceToNat,Nat.reduceAdd,Nat.reduceMul,Nat.reduceLeDiff,Nat.reduceLT,Nat.reduceSub,Int.reduceNeg,Int.reduceEq,Int.reduceBEq,Int.reduceBNe,Nat.reduceEqDiff,fW,h1]
    exact hP1 2 (by decide) fun h => by have := h.sl0; omega
  by_cases h2 : 8 < w.sl
  · simp -implicitDefEqProofs only [act_Check_b0,act_Check_b1,go_sem,↓reduceIte,reduceCtorEq,Int.reduceLT,Int.reduceLE,Int.reduceToNat,Nat.reduceAdd,Nat.reduceMul,Nat.reduceLeDiff,Nat.reduceLT,Nat.reduceSub,Int.reduceNeg,Int.reduceEq,Int.reduceBEq,Int.reduceBNe,Nat.reduceEqDiff,fW,h1,h2]
    exact hP1 2 (by decide) fun h => by have := h.sl8; omega
  by_cases h3 : (6 : Int) < (w.pl.length : Int)
  · simp -implicitDefEqProofs only [act_Check_b0,act_Check_b1,go_sem,↓reduceIte,reduceCtorEq,Int.reduceLT,Int.reduceLE,Int.reduceToNat,Nat.reduceAdd,Nat.reduceMul,Nat.reduceLeDiff,Nat.reduceLT,Nat.reduceSub,Int.reduceNeg,Int.reduceEq,Int.reduceBEq,Int.reduceBNe,Nat.reduceEqDiff,fW,h1,h2,h3]
    exact hP1 2 (by decide) fun h => by have := h.pl; omega
  by_cases h4 : (4 : Int) < (w.sp.length : Int)
  · simp -implicitDefEqProofs only [act_Check_b0,act_Check_b1,go_sem,↓reduceIte,reduceCtorEq,Int.reduceLT,Int.reduceLE,Int.reduceToNat,Nat.reduceAdd,Nat.reduceMul,Nat.reduceLeDiff,Nat.reduceLT,Nat.reduceSub,Int.reduceNeg,Int.reduceEq,Int.reduceBEq,Int.reduceBNe,Nat.reduceEqDiff,fW,h1,h2,h3,h4]
    exact hP1 2 (by decide) fun h => by have := h.sp; omega
  by_cases h5 : (w.sn.length : Int) = (w.pl.length : Int)
  case neg =>
    simp -implicitDefEqProofs only [act_Check_b0,act_Check_b1,go_sem,↓reduceIte,reduceCtorEq,Int.reduceLT,Int.reduceLE,Int.reduceToNat,Nat.reduceAdd,Nat.reduceMul,Nat.reduceLeDiff,Nat.reduceLT,Nat.reduceSub,Int.reduceNeg,Int.reduceEq,Int.reduceBEq,Int.reduceBNe,Nat.reduceEqDiff,fW,h1,h2,h3,h4,h5]
    exact hP1 3 (by decide) fun h => by have := h.sn; omega
  have hsm : Small w := ⟨by omega,by omega,by omega,by omega,by omega⟩
  have hHeld := Held_spec
  simp -implicitDefEqProofs only [go_sem,↓reduceIte,reduceCtorEq,Int.reduceLT,Int.reduceLE,Int.reduceToNat,Nat.reduceAdd,Nat.reduceMul,Nat.reduceLeDiff,Nat.reduceLT,Nat.reduceSub,Int.reduceNeg,Int.reduceEq,Int.reduceBEq,Int.reduceBNe,Nat.reduceEqDiff,fW,h1,h2,h3,h4,h5]
  rw [Sat_bind]
  have hwl : IntKind.i64.wrap ((w.sp.length : Int) - 1) = (w.sp.length : Int) - 1 := wrap_id (by omega) (by omega)
  have hl8 : IntKind.i64.wrap (8 + (w.pl.length : Int)) = 8 + (w.pl.length : Int) := wrap_id (by omega) (by omega)
  have hH : ∀ lo h,callVL vp lo n_act_Held [.int .i64 ((w.sp.length : Int) - 1)] h = some (.int .i64 (-1 - (w.sp.length : Int)),h) := by
    intro lo h
    by_cases h0 : w.sp.length = 0
    · refine call_valE (fn := act_Held_v) rfl rfl rfl rfl rfl ?_ lo h
      have hw : IntKind.i64.wrap (-2 - ((w.sp.length : Int) - 1)) = -1 - (w.sp.length : Int) := by rw [wrap_id (by omega) (by omega)]; omega
      simp -implicitDefEqProofs only [go_sem,↓reduceIte,reduceCtorEq,Int.reduceLT,Int.reduceLE,Int.reduceToNat,Nat.reduceAdd,Nat.reduceMul,Nat.reduceLeDiff,Nat.reduceLT,Nat.reduceSub,Int.reduceNeg,Int.reduceEq,Int.reduceBEq,Int.reduceBNe,Nat.reduceEqDiff,hw]
    · have := Held_spec ((w.sp.length : Int) - 1) (by omega) (by omega) lo h
      rw [this]; congr 3; omega
  refine loop_up (I := fun i env h' => h' = [.cells true (fW w)] ∧ (∀ j x,j < i → w.pl[j]? = some x → okP w j x) ∧ env = (VV.undef :: (.ptr 0 0 : VV) :: VV.undef :: VV.undef :: VV.undef :: VV.undef :: VV.undef :: VV.undef :: VV.undef :: VV.undef :: VV.undef :: VV.undef :: VV.undef :: VV.undef :: VV.undef :: VV.undef :: VV.undef :: VV.undef :: VV.undef :: VV.undef :: VV.undef :: VV.undef :: VV.undef :: VV.undef :: VV.undef :: VV.undef :: VV.undef :: VV.undef :: VV.undef :: VV.undef :: VV.undef :: VV.undef :: VV.undef :: VV.undef :: VV.undef :: (.list .s (w.pl.map fI) : VV) :: (.int .i64 ((w.pl.length : Nat) : Int) : VV) :: (.int .i64 ((i : Nat) : Int) : VV) :: VV.undef :: VV.undef :: VV.undef :: VV.undef :: VV.undef :: VV.undef :: VV.undef :: VV.undef :: VV.undef :: VV.undef :: VV.undef :: VV.undef :: VV.undef :: VV.undef :: VV.undef :: VV.undef :: VV.undef :: VV.undef :: VV.undef :: VV.undef :: VV.undef :: VV.undef :: VV.undef :: VV.undef :: VV.undef :: VV.undef :: VV.undef :: VV.undef :: VV.undef :: VV.undef :: VV.undef :: VV.undef :: VV.undef :: VV.undef :: VV.undef :: VV.undef :: VV.undef :: VV.undef :: VV.undef :: VV.undef :: VV.undef :: VV.undef :: VV.undef :: VV.undef :: VV.undef :: VV.undef :: VV.undef :: VV.undef :: VV.undef :: VV.undef :: VV.undef :: VV.undef :: VV.undef :: VV.undef :: VV.undef :: VV.undef :: VV.undef :: VV.undef :: VV.undef :: VV.undef :: VV.undef :: VV.undef :: VV.undef :: VV.undef :: VV.undef :: VV.undef :: VV.undef :: [])) w.pl.length ?_ ?_ (Nat.zero_le _) ⟨rfl,fun j x hj => absurd hj (Nat.not_lt_zero j),by simp -implicitDefEqProofs only [go_sem,↓reduceIte,reduceCtorEq,Int.reduceLT,Int.reduceLE,Int.reduceToNat,Nat.reduceAdd,Nat.reduceMul,Nat.reduceLeDiff,Nat.reduceLT,Nat.reduceSub,Int.reduceNeg,Int.reduceEq,Int.reduceBEq,Int.reduceBNe,Nat.reduceEqDiff,fW]⟩
  · rintro i env h' hi ⟨rfl,hA,rfl⟩
    obtain ⟨x,hx⟩ := get_some hi
    have hi' : (i : Int) < (w.pl.length : Int) := by omega
    have hw := wrap_succ (i := i) (by omega)
    have hg := get_map (F := fI) hx
    simp only [fI] at hg
    have htk := take_fI w.pl i
    have hlt : (w.pl.take i).length ≤ 100000 := by rw [List.length_take]; omega
    have hC := Contains_i (w.pl.take i) x hlt
    have hile : i ≤ w.pl.length := by omega
    have hal := all_len (F := fI) (es := 1) (fun _ => rfl) w.pl
    by_cases a1 : w.sl ≤ x
    · simp -implicitDefEqProofs only [act_Check_b0,act_Check_b1,go_sem,↓reduceIte,reduceCtorEq,Int.reduceLT,Int.reduceLE,Int.reduceToNat,Nat.reduceAdd,Nat.reduceMul,Nat.reduceLeDiff,Nat.reduceLT,Nat.reduceSub,Int.reduceNeg,Int.reduceEq,Int.reduceBEq,Int.reduceBNe,Nat.reduceEqDiff,fW,hi',hg,a1]
      exact hP1 1 (by decide) fun h => by have := (h.p1 i x hx).2.1; omega
    by_cases a2 : x < -1 - (w.sp.length : Int)
    · simp -implicitDefEqProofs only [act_Check_b0,act_Check_b1,go_sem,↓reduceIte,reduceCtorEq,Int.reduceLT,Int.reduceLE,Int.reduceToNat,Nat.reduceAdd,Nat.reduceMul,Nat.reduceLeDiff,Nat.reduceLT,Nat.reduceSub,Int.reduceNeg,Int.reduceEq,Int.reduceBEq,Int.reduceBNe,Nat.reduceEqDiff,fW,hi',hg,a1,hwl,hH,a2]
      exact hP1 1 (by decide) fun h => by have := (h.p1 i x hx).1; omega
    by_cases a3 : x = -1
    · subst a3
      simp -implicitDefEqProofs only [act_Check_b0,act_Check_b1,go_sem,↓reduceIte,reduceCtorEq,Int.reduceLT,Int.reduceLE,Int.reduceToNat,Nat.reduceAdd,Nat.reduceMul,Nat.reduceLeDiff,Nat.reduceLT,Nat.reduceSub,Int.reduceNeg,Int.reduceEq,Int.reduceBEq,Int.reduceBNe,Nat.reduceEqDiff,fW,hi',hg,a1,hwl,hH,a2,hw]
      intro j y hj hy
      rcases Nat.lt_succ_iff_lt_or_eq.1 hj with hj | rfl
      · exact hA j y hj hy
      · rw [hx] at hy; cases hy; exact ⟨by omega,by omega,.inl rfl⟩
    by_cases a4 : x ∈ w.pl.take i
    · simp -implicitDefEqProofs only [act_Check_b0,act_Check_b1,go_sem,↓reduceIte,reduceCtorEq,Int.reduceLT,Int.reduceLE,Int.reduceToNat,Nat.reduceAdd,Nat.reduceMul,Nat.reduceLeDiff,Nat.reduceLT,Nat.reduceSub,Int.reduceNeg,Int.reduceEq,Int.reduceBEq,Int.reduceBNe,Nat.reduceEqDiff,fW,hi',hg,a1,hwl,hH,a2,a3,hal,hile,htk,hC,a4]
      exact hP1 10 (by decide) fun h => by rcases (h.p1 i x hx).2.2 with h | h <;> first | exact a3 h | exact h a4
    · simp -implicitDefEqProofs only [act_Check_b0,act_Check_b1,go_sem,↓reduceIte,reduceCtorEq,Int.reduceLT,Int.reduceLE,Int.reduceToNat,Nat.reduceAdd,Nat.reduceMul,Nat.reduceLeDiff,Nat.reduceLT,Nat.reduceSub,Int.reduceNeg,Int.reduceEq,Int.reduceBEq,Int.reduceBNe,Nat.reduceEqDiff,fW,hi',hg,a1,hwl,hH,a2,a3,hal,hile,htk,hC,a4,hw]
      intro j y hj hy
      rcases Nat.lt_succ_iff_lt_or_eq.1 hj with hj | rfl
      · exact hA j y hj hy
      · rw [hx] at hy; cases hy; exact ⟨by omega,by omega,.inr a4⟩
  · rintro env h' ⟨rfl,hA,rfl⟩
    have hA' : ∀ (i : Nat) (x : Int),w.pl[i]? = some x → okP w i x := fun i x hx => hA i x (lt_of_getElem? hx) hx
    simp -implicitDefEqProofs only [act_Check_b0,go_sem,↓reduceIte,reduceCtorEq,Int.reduceLT,Int.reduceLE,Int.reduceToNat,Nat.reduceAdd,Nat.reduceMul,Nat.reduceLeDiff,Nat.reduceLT,Nat.reduceSub,Int.reduceNeg,Int.reduceEq,Int.reduceBEq,Int.reduceBNe,Nat.reduceEqDiff,fW,Int.lt_irrefl]
    rw [Sat_bind]
    refine loop_up (I := fun i env h' => h' = [.cells true (fW w)] ∧ (∀ j x,j < i → w.sp[j]? = some x → okS w j x) ∧ env = (VV.undef :: (.ptr 0 0 : VV) :: VV.undef :: VV.undef :: VV.undef :: VV.undef :: VV.undef :: VV.undef :: VV.undef :: VV.undef :: VV.undef :: VV.undef :: VV.undef :: VV.undef :: VV.undef :: VV.undef :: VV.undef :: VV.undef :: VV.undef :: VV.undef :: VV.undef :: VV.undef :: VV.undef :: VV.undef :: VV.undef :: VV.undef :: VV.undef :: VV.undef :: VV.undef :: VV.undef :: VV.undef :: VV.undef :: VV.undef :: VV.undef :: VV.undef :: VV.undef :: VV.undef :: VV.undef :: VV.undef :: VV.undef :: VV.undef :: VV.undef :: VV.undef :: VV.undef :: VV.undef :: VV.undef :: VV.undef :: VV.undef :: VV.undef :: VV.undef :: VV.undef :: VV.undef :: VV.undef :: VV.undef :: VV.undef :: VV.undef :: VV.undef :: VV.undef :: VV.undef :: VV.undef :: VV.undef :: VV.undef :: VV.undef :: VV.undef :: VV.undef :: VV.undef :: VV.undef :: (.list .s (w.sp.map fI) : VV) :: (.int .i64 ((w.sp.length : Nat) : Int) : VV) :: (.int .i64 ((i : Nat) : Int) : VV) :: VV.undef :: VV.undef :: VV.undef :: VV.undef :: VV.undef :: VV.undef :: VV.undef :: VV.undef :: VV.undef :: VV.undef :: VV.undef :: VV.undef :: VV.undef :: VV.undef :: VV.undef :: VV.undef :: VV.undef :: VV.undef :: VV.undef :: VV.undef :: VV.undef :: VV.undef :: VV.undef :: VV.undef :: VV.undef :: VV.undef :: VV.undef :: VV.undef :: VV.undef :: VV.undef :: VV.undef :: VV.undef :: VV.undef :: VV.undef :: VV.undef :: [])) w.sp.length ?_ ?_ (Nat.zero_le _) ⟨rfl,fun j x hj => absurd hj (Nat.not_lt_zero j),by simp -implicitDefEqProofs only [go_sem,↓reduceIte,reduceCtorEq,Int.reduceLT,Int.reduceLE,Int.reduceToNat,Nat.reduceAdd,Nat.reduceMul,Nat.reduceLeDiff,Nat.reduceLT,Nat.reduceSub,Int.reduceNeg,Int.reduceEq,Int.reduceBEq,Int.reduceBNe,Nat.reduceEqDiff,fW]⟩
    · rintro i env h' hi ⟨rfl,hA,rfl⟩
      obtain ⟨x,hx⟩ := get_some hi
      have hi' : (i : Int) < (w.sp.length : Int) := by omega
      have hw := wrap_succ (i := i) (by omega)
      have hg := get_map (F := fI) hx
      simp only [fI] at hg
      have htk := take_fI w.sp i
      have hlt : (w.sp.take i).length ≤ 100000 := by rw [List.length_take]; omega
      have hC := Contains_i (w.sp.take i) x hlt
      have hile : i ≤ w.sp.length := by omega
      have hal := all_len (F := fI) (es := 1) (fun _ => rfl) w.sp
      by_cases a1 : x < -1
      · simp -implicitDefEqProofs only [act_Check_b0,act_Check_b1,go_sem,↓reduceIte,reduceCtorEq,Int.reduceLT,Int.reduceLE,Int.reduceToNat,Nat.reduceAdd,Nat.reduceMul,Nat.reduceLeDiff,Nat.reduceLT,Nat.reduceSub,Int.reduceNeg,Int.reduceEq,Int.reduceBEq,Int.reduceBNe,Nat.reduceEqDiff,fW,hi',hg,a1]
        exact hP1 1 (by decide) fun h => by have := (h.s1 i x hx).1; omega
      by_cases a2 : w.sl ≤ x ∧ x < 8
      · obtain ⟨b1,b2⟩ := a2
        simp -implicitDefEqProofs only [act_Check_b0,act_Check_b1,go_sem,↓reduceIte,reduceCtorEq,Int.reduceLT,Int.reduceLE,Int.reduceToNat,Nat.reduceAdd,Nat.reduceMul,Nat.reduceLeDiff,Nat.reduceLT,Nat.reduceSub,Int.reduceNeg,Int.reduceEq,Int.reduceBEq,Int.reduceBNe,Nat.reduceEqDiff,fW,hi',hg,a1,b1,b2]
        exact hP1 1 (by decide) fun h => by have := (h.s1 i x hx).2.1; omega
      have a2' : decide (w.sl ≤ x) = false ∨ (decide (w.sl ≤ x) = true ∧ decide (x < 8) = false) := by
        by_cases b1 : w.sl ≤ x
        · exact .inr ⟨decide_eq_true b1,decide_eq_false fun b2 => a2 ⟨b1,b2⟩⟩
        · exact .inl (decide_eq_false b1)
      have next : (x < 8 + (w.pl.length : Int)) → (x = -1 ∨ x ∉ w.sp.take i) → ∀ j y,j < i + 1 → w.sp[j]? = some y → okS w j y := by
        intro b1 b2 j y hj hy
        rcases Nat.lt_succ_iff_lt_or_eq.1 hj with hj | rfl
        · exact hA j y hj hy
        · rw [hx] at hy; cases hy; exact ⟨by omega,a2,b1,b2⟩
      rcases a2' with b1 | ⟨b1,b2⟩
      · have b1' := of_decide_eq_false b1
        by_cases c1 : 8 + (w.pl.length : Int) ≤ x
        · simp -implicitDefEqProofs only [act_Check_b0,act_Check_b1,go_sem,↓reduceIte,reduceCtorEq,Int.reduceLT,Int.reduceLE,Int.reduceToNat,Nat.reduceAdd,Nat.reduceMul,Nat.reduceLeDiff,Nat.reduceLT,Nat.reduceSub,Int.reduceNeg,Int.reduceEq,Int.reduceBEq,Int.reduceBNe,Nat.reduceEqDiff,fW,hi',hg,a1,b1',hl8,c1]
          exact hP1 1 (by decide) fun h => by have := (h.s1 i x hx).2.2.1; omega
        by_cases a3 : x = -1
        · subst a3
          simp -implicitDefEqProofs only [act_Check_b0,act_Check_b1,go_sem,↓reduceIte,reduceCtorEq,Int.reduceLT,Int.reduceLE,Int.reduceToNat,Nat.reduceAdd,Nat.reduceMul,Nat.reduceLeDiff,Nat.reduceLT,Nat.reduceSub,Int.reduceNeg,Int.reduceEq,Int.reduceBEq,Int.reduceBNe,Nat.reduceEqDiff,fW,hi',hg,a1,b1',hl8,c1,hw]
          exact next (by omega) (.inl rfl)
        by_cases a4 : x ∈ w.sp.take i
        · simp -implicitDefEqProofs only [act_Check_b0,act_Check_b1,go_sem,↓reduceIte,reduceCtorEq,Int.reduceLT,Int.reduceLE,Int.reduceToNat,Nat.reduceAdd,Nat.reduceMul,Nat.reduceLeDiff,Nat.reduceLT,Nat.reduceSub,Int.reduceNeg,Int.reduceEq,Int.reduceBEq,Int.reduceBNe,Nat.reduceEqDiff,fW,hi',hg,a1,b1',hl8,c1,a3,hal,hile,htk,hC,a4]
          exact hP1 10 (by decide) fun h => by rcases (h.s1 i x hx).2.2.2 with h | h <;> first | exact a3 h | exact h a4
        · simp -implicitDefEqProofs only [act_Check_b0,act_Check_b1,go_sem,↓reduceIte,reduceCtorEq,Int.reduceLT,Int.reduceLE,Int.reduceToNat,Nat.reduceAdd,Nat.reduceMul,Nat.reduceLeDiff,Nat.reduceLT,Nat.reduceSub,Int.reduceNeg,Int.reduceEq,Int.reduceBEq,Int.reduceBNe,Nat.reduceEqDiff,fW,hi',hg,a1,b1',hl8,c1,a3,hal,hile,htk,hC,a4,hw]
          exact next (by omega) (.inr a4)
      · have b1' := of_decide_eq_true b1
        have b2' := of_decide_eq_false b2
        have a3 : ¬ x = -1 := by omega
        by_cases c1 : 8 + (w.pl.length : Int) ≤ x
        · simp -implicitDefEqProofs only [act_Check_b0,act_Check_b1,go_sem,↓reduceIte,reduceCtorEq,Int.reduceLT,Int.reduceLE,Int.reduceToNat,Nat.reduceAdd,Nat.reduceMul,Nat.reduceLeDiff,Nat.reduceLT,Nat.reduceSub,Int.reduceNeg,Int.reduceEq,Int.reduceBEq,Int.reduceBNe,Nat.reduceEqDiff,fW,hi',hg,a1,b1',b2',hl8,c1]
          exact hP1 1 (by decide) fun h => by have := (h.s1 i x hx).2.2.1; omega
        by_cases a4 : x ∈ w.sp.take i
        · simp -implicitDefEqProofs only [act_Check_b0,act_Check_b1,go_sem,↓reduceIte,reduceCtorEq,Int.reduceLT,Int.reduceLE,Int.reduceToNat,Nat.reduceAdd,Nat.reduceMul,Nat.reduceLeDiff,Nat.reduceLT,Nat.reduceSub,Int.reduceNeg,Int.reduceEq,Int.reduceBEq,Int.reduceBNe,Nat.reduceEqDiff,fW,hi',hg,a1,b1',b2',hl8,c1,a3,hal,hile,htk,hC,a4]
          exact hP1 10 (by decide) fun h => by rcases (h.s1 i x hx).2.2.2 with h | h <;> first | exact a3 h | exact h a4
        · simp -implicitDefEqProofs only [act_Check_b0,act_Check_b1,go_sem,↓reduceIte,reduceCtorEq,Int.reduceLT,Int.reduceLE,Int.reduceToNat,Nat.reduceAdd,Nat.reduceMul,Nat.reduceLeDiff,Nat.reduceLT,Nat.reduceSub,Int.reduceNeg,Int.reduceEq,Int.reduceBEq,Int.reduceBNe,Nat.reduceEqDiff,fW,hi',hg,a1,b1',b2',hl8,c1,a3,hal,hile,htk,hC,a4,hw]
          exact next (by omega) (.inr a4)
    · rintro env h' ⟨rfl,hB,rfl⟩
      simp -implicitDefEqProofs only [act_Check_b0,act_Check_b1,go_sem,↓reduceIte,reduceCtorEq,Int.reduceLT,Int.reduceLE,Int.reduceToNat,Nat.reduceAdd,Nat.reduceMul,Nat.reduceLeDiff,Nat.reduceLT,Nat.reduceSub,Int.reduceNeg,Int.reduceEq,Int.reduceBEq,Int.reduceBNe,Nat.reduceEqDiff,Int.lt_irrefl]
      exact hP0 ⟨hsm,hA',fun i x hx => hB i x (lt_of_getElem? hx) hx⟩
end Vg.G3
namespace Vg.G3
open Go Lg
set_option linter.unusedSimpArgs false
set_option linter.unusedVariables false
set_option maxRecDepth 10000
set_option maxHeartbeats 4000000
attribute [local congr] bind_congr1
attribute [local go_sem] act_Form_r0 act_Form_r1 act_Form_r1_d act_Form_r2 act_Form_r3 act_Form_r4 act_Form_r5 act_Form_r6 act_Form_r7 act_Form_r8 act_Form_r9 act_Form_r10 act_Form_r11 act_Form_r12 act_Form_r13 act_Form_r14 act_Form_f act_Form_v

def formF (s : Stp) : Bool :=
  if s.p < -1 ∨ s.s < -1 ∨ s.a < 0 then false
  else if s.k = 0 then decide ((0 ≤ s.p ↔ ¬ 0 ≤ s.s) ∧ s.t = 0)
  else if s.k = 1 ∨ s.k = 3 then decide (0 ≤ s.p ∧ ¬ 0 ≤ s.s ∧ s.t = 0)
  else if s.k = 2 then decide (0 ≤ s.s ∧ ¬ 0 ≤ s.p ∧ s.t = 0)
  else if s.k = 4 then decide (¬ 0 ≤ s.p ∧ ¬ 0 ≤ s.s ∧ 1 ≤ s.t ∧ s.t ≤ 2000)
  else false
theorem Form_spec (s : Stp) (lo : Nat) (h : VHeap) : callVL vp lo n_act_Form [.agg (fS s)] h = some (.bool (formF s),h) := by
  refine call_valE (fn := act_Form_v) rfl rfl rfl rfl rfl ?_ lo h
  obtain ⟨k,a,p,q,t⟩ := s
  unfold formF
  simp only
  by_cases h1 : p < -1
  · rw [if_pos (.inl h1)]
    by_cases b1 : 0 ≤ p <;> by_cases b2 : 0 ≤ q <;> by_cases b3 : t = 0 <;> simp -implicitDefEqProofs only [go_sem,↓reduceIte,reduceCtorEq,Int.reduceLT,Int.reduceLE,Int.reduceToNat,Nat.reduceAdd,Nat.reduceMul,Nat.reduceLeDiff,Nat.reduceLT,Nat.reduceSub,Int.reduceNeg,Int.reduceEq,Int.reduceBEq,Int.reduceBNe,Nat.reduceEqDiff,fS,h1,b1,b2,b3]
  by_cases h2 : q < -1
  · rw [if_pos (.inr (.inl h2))]
    by_cases b1 : 0 ≤ p <;> by_cases b2 : 0 ≤ q <;> by_cases b3 : t = 0 <;> simp -implicitDefEqProofs only [go_sem,↓reduceIte,reduceCtorEq,Int.reduceLT,Int.reduceLE,Int.reduceToNat,Nat.reduceAdd,Nat.reduceMul,Nat.reduceLeDiff,Nat.reduceLT,Nat.reduceSub,Int.reduceNeg,Int.reduceEq,Int.reduceBEq,Int.reduceBNe,Nat.reduceEqDiff,fS,h1,h2,b1,b2,b3]
  by_cases h3 : a < 0
  · rw [if_pos (.inr (.inr h3))]
    by_cases b1 : 0 ≤ p <;> by_cases b2 : 0 ≤ q <;> by_cases b3 : t = 0 <;> simp -implicitDefEqProofs only [go_sem,↓reduceIte,reduceCtorEq,Int.reduceLT,Int.reduceLE,Int.reduceToNat,Nat.reduceAdd,Nat.reduceMul,Nat.reduceLeDiff,Nat.reduceLT,Nat.reduceSub,Int.reduceNeg,Int.reduceEq,Int.reduceBEq,Int.reduceBNe,Nat.reduceEqDiff,fS,h1,h2,h3,b1,b2,b3]
  rw [if_neg (by omega)]
  by_cases k0 : k = 0
  · subst k0
    by_cases b1 : 0 ≤ p <;> by_cases b2 : 0 ≤ q <;> by_cases b3 : t = 0 <;> simp -implicitDefEqProofs only [go_sem,↓reduceIte,reduceCtorEq,Int.reduceLT,Int.reduceLE,Int.reduceToNat,Nat.reduceAdd,Nat.reduceMul,Nat.reduceLeDiff,Nat.reduceLT,Nat.reduceSub,Int.reduceNeg,Int.reduceEq,Int.reduceBEq,Int.reduceBNe,Nat.reduceEqDiff,fS,h1,h2,h3,b1,b2,b3,iff_true,iff_false,true_iff,false_iff,not_true_eq_false]
  by_cases k1 : k = 1
  · subst k1
    by_cases b1 : 0 ≤ p <;> by_cases b2 : 0 ≤ q <;> by_cases b3 : t = 0 <;> simp -implicitDefEqProofs only [go_sem,↓reduceIte,reduceCtorEq,Int.reduceLT,Int.reduceLE,Int.reduceToNat,Nat.reduceAdd,Nat.reduceMul,Nat.reduceLeDiff,Nat.reduceLT,Nat.reduceSub,Int.reduceNeg,Int.reduceEq,Int.reduceBEq,Int.reduceBNe,Nat.reduceEqDiff,fS,h1,h2,h3,b1,b2,b3]
  by_cases k3 : k = 3
  · subst k3
    by_cases b1 : 0 ≤ p <;> by_cases b2 : 0 ≤ q <;> by_cases b3 : t = 0 <;> simp -implicitDefEqProofs only [go_sem,↓reduceIte,reduceCtorEq,Int.reduceLT,Int.reduceLE,Int.reduceToNat,Nat.reduceAdd,Nat.reduceMul,Nat.reduceLeDiff,Nat.reduceLT,Nat.reduceSub,Int.reduceNeg,Int.reduceEq,Int.reduceBEq,Int.reduceBNe,Nat.reduceEqDiff,fS,h1,h2,h3,b1,b2,b3]
  by_cases k2 : k = 2
  · subst k2
    by_cases b1 : 0 ≤ p <;> by_cases b2 : 0 ≤ q <;> by_cases b3 : t = 0 <;> simp -implicitDefEqProofs only [go_sem,↓reduceIte,reduceCtorEq,Int.reduceLT,Int.reduceLE,Int.reduceToNat,Nat.reduceAdd,Nat.reduceMul,Nat.reduceLeDiff,Nat.reduceLT,Nat.reduceSub,Int.reduceNeg,Int.reduceEq,Int.reduceBEq,Int.reduceBNe,Nat.reduceEqDiff,fS,h1,h2,h3,b1,b2,b3]
  by_cases k4 : k = 4
  · subst k4
    by_cases b1 : 0 ≤ p <;> by_cases b2 : 0 ≤ q <;> by_cases b3 : t = 0 <;> by_cases b4 : 1 ≤ t <;> by_cases b5 : t ≤ 2000 <;> simp -implicitDefEqProofs only [go_sem,↓reduceIte,reduceCtorEq,Int.reduceLT,Int.reduceLE,Int.reduceToNat,Nat.reduceAdd,Nat.reduceMul,Nat.reduceLeDiff,Nat.reduceLT,Nat.reduceSub,Int.reduceNeg,Int.reduceEq,Int.reduceBEq,Int.reduceBNe,Nat.reduceEqDiff,fS,h1,h2,h3,b1,b2,b3,b4,b5]
  by_cases b1 : 0 ≤ p <;> by_cases b2 : 0 ≤ q <;> by_cases b3 : t = 0 <;> simp -implicitDefEqProofs only [go_sem,↓reduceIte,reduceCtorEq,Int.reduceLT,Int.reduceLE,Int.reduceToNat,Nat.reduceAdd,Nat.reduceMul,Nat.reduceLeDiff,Nat.reduceLT,Nat.reduceSub,Int.reduceNeg,Int.reduceEq,Int.reduceBEq,Int.reduceBNe,Nat.reduceEqDiff,fS,h1,h2,h3,k0,k1,k2,k3,k4,b1,b2,b3]
end Vg.G3
