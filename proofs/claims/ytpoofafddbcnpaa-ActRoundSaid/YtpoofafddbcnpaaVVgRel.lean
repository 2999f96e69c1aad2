/- What a state of the machine of values stands for in the logical machine. -/
import Derived.Test.YtpoofafddbcnpaaVVgCore
namespace Vg
open Go Lg
set_option linter.unusedSimpArgs false
set_option linter.unusedVariables false

/-- Who holds a block of the logical machine. -/
inductive Owner where
  | blk (n : Nat)
  | env (i : Nat)
  | cell (n off : Nat)
  | ext
  deriving DecidableEq
abbrev Own := Nat → Option Owner

/-- What nobody holds stays. -/
structure Fr (w : Own) (lh : Heap) (w' : Own) (lh' : Heap) : Prop where
  le : lh.length ≤ lh'.length
  keep : ∀ b,b < lh.length → w b = none → w' b = none ∧ lh'[b]? = lh[b]?
  ext : ∀ b,b < lh.length → w b = some .ext → w' b = some .ext ∧ lh'[b]? = lh[b]?
theorem Fr.refl (w : Own) (lh : Heap) : Fr w lh w lh := ⟨Nat.le_refl _,fun _ _ h => ⟨h,rfl⟩,fun _ _ h => ⟨h,rfl⟩⟩
theorem Fr.trans {w w1 w2 : Own} {a b c : Heap} (h : Fr w a w1 b) (k : Fr w1 b w2 c) : Fr w a w2 c :=
  ⟨Nat.le_trans h.le k.le,fun n hn hw => ⟨(k.keep n (Nat.lt_of_lt_of_le hn h.le) (h.keep n hn hw).1).1,((k.keep n (Nat.lt_of_lt_of_le hn h.le) (h.keep n hn hw).1).2).trans (h.keep n hn hw).2⟩,
  fun n hn hw => ⟨(k.ext n (Nat.lt_of_lt_of_le hn h.le) (h.ext n hn hw).1).1,((k.ext n (Nat.lt_of_lt_of_le hn h.le) (h.ext n hn hw).1).2).trans (h.ext n hn hw).2⟩⟩

theorem Fr.stay {w w' : Own} {lh lh' : Heap} (h : Fr w lh w' lh') (b : Nat) (hb : b < lh.length) (hw : w b = none ∨ w b = some .ext) : (w' b = none ∨ w' b = some .ext) ∧ lh'[b]? = lh[b]? := by
  rcases hw with hw | hw
  · exact ⟨.inl (h.keep b hb hw).1,(h.keep b hb hw).2⟩
  · exact ⟨.inr (h.ext b hb hw).1,(h.ext b hb hw).2⟩
/-- The same,but for the room behind a list. -/
def Fw (w : Own) (lh : Heap) (w' : Own) (lh' : Heap) : Prop := ∀ b x,lh[b]? = some x → (∀ m u,x ≠ .tok m u) → w b = none → w' b = none ∧ lh'[b]? = some x
theorem Fr.weak {w w' : Own} {lh lh' : Heap} (h : Fr w lh w' lh') : Fw w lh w' lh' := fun b x hb _ hw =>
  ⟨(h.keep b (lt_of_getElem? hb) hw).1,by rw [(h.keep b (lt_of_getElem? hb) hw).2]; exact hb⟩
instance {w w' : Own} {lh lh' : Heap} : Coe (Fr w lh w' lh') (Fw w lh w' lh') := ⟨Fr.weak⟩

inductive RV (w : Own) (φ : List Nat) (lh : Heap) : VV → LV → Prop where
  | undef (l : LV) : RV w φ lh .undef l
  | bool (b : Bool) : RV w φ lh (.bool b) (.bool b)
  | int (k : IntKind) (n : Int) : RV w φ lh (.int k n) (.int k n)
  | str (s : List UInt8) : RV w φ lh (.str s) (.str s)
  | ptr {n off b : Nat} (h : φ[n]? = some b) : RV w φ lh (.ptr n off) (.ptr b off)
  | cptr {cs : List VV} {b base off : Nat} {rw : Bool} {lcs : List LV} (hw : w b = none) (hb : lh[b]? = some (.cells rw lcs)) (hl : base + cs.length ≤ lcs.length) (hf : lowL 0 cs = true)
      (h : ∀ (i : Nat) (v : VV) (l : LV),cs[i]? = some v → lcs[base + i]? = some l → RV w φ lh v l) : RV w φ lh (.cptr cs off) (.ptr b (base + off))
  | nilptr : RV w φ lh .nilptr .nilptr
  | nil (m : LMode) : RV w φ lh (.list m []) .nilslice
  | list0 (m : LMode) (n off es : Nat) (full : Bool) (hm : m = .f → full = true) : RV w φ lh (.list m []) (.slice n off 0 es full)
  | list {m : LMode} {rows : List (List VV)} {b off es : Nat} {full rw : Bool} {lcs : List LV} (hw : w b = none) (hb : lh[b]? = some (.cells rw lcs)) (hl : off + rows.length * es ≤ lcs.length) (hm : m = .f → full = true)
      (hr : ∀ row ∈ rows,row.length = es ∧ lowL 0 row = true)
      (h : ∀ (i : Nat) (row : List VV) (j : Nat) (v : VV) (l : LV),rows[i]? = some row → row[j]? = some v → lcs[off + i * es + j]? = some l → RV w φ lh v l) : RV w φ lh (.list m rows) (.slice b off rows.length es full)
  | hs {n off len es b : Nat} {full : Bool} (h : φ[n]? = some b) : RV w φ lh (.hs n off len es) (.slice b off len es full)
  | map {n b : Nat} (h : φ[n]? = some b) : RV w φ lh (.map n) (.map b)
  | nilmap : RV w φ lh .nilmap .nilmap
  | func (f : FuncId) (cs : List VV) (ls : List LV) (hl : cs.length = ls.length) (h : ∀ (i : Nat) (v : VV) (l : LV),cs[i]? = some v → ls[i]? = some l → RV w φ lh v l) : RV w φ lh (.func f cs) (.func f ls)
  | nilfunc : RV w φ lh .nilfunc .nilfunc
  | iface (t : TypeId) {v : VV} {l : LV} (h : RV w φ lh v l) : RV w φ lh (.iface t v) (.iface t l)
  | nilif : RV w φ lh .nilif .nilif
  | agg (cs : List VV) (ls : List LV) (hl : cs.length = ls.length) (h : ∀ (i : Nat) (v : VV) (l : LV),cs[i]? = some v → ls[i]? = some l → RV w φ lh v l) : RV w φ lh (.agg cs) (.agg ls)
  | tup (cs : List VV) (ls : List LV) (hl : cs.length = ls.length) (h : ∀ (i : Nat) (v : VV) (l : LV),cs[i]? = some v → ls[i]? = some l → RV w φ lh v l) : RV w φ lh (.tup cs) (.tup ls)

theorem lowL_mem {k : Nat} : ∀ {cs : List VV},lowL k cs = true → ∀ v ∈ cs,v.low k = true
  | [],_,v,hv => by cases hv
  | c :: cs,h,v,hv => by
    simp only [lowL,Bool.and_eq_true] at h
    rcases List.mem_cons.1 hv with rfl | hv
    · exact h.1
    · exact lowL_mem h.2 v hv
theorem lowL_of {k : Nat} : ∀ {cs : List VV},(∀ v ∈ cs,v.low k = true) → lowL k cs = true
  | [],_ => rfl
  | c :: cs,h => by simp only [lowL,Bool.and_eq_true]; exact ⟨h c (by simp),lowL_of fun v hv => h v (by simp [hv])⟩
theorem lowL_get {k : Nat} {cs : List VV} (h : lowL k cs = true) {i : Nat} {v : VV} (hv : cs[i]? = some v) : v.low k = true := lowL_mem h v (List.mem_of_getElem? hv)
theorem lowL_append {k : Nat} (a b : List VV) : lowL k (a ++ b) = (lowL k a && lowL k b) := by
  induction a with
  | nil => simp [lowL]
  | cons x a ih => simp [lowL,ih,Bool.and_assoc]

/-- A value's meaning,carried from state to state. -/
theorem RV.tr {w w' : Own} {φ φ' : List Nat} {lh lh' : Heap} {v : VV} {l : LV} (h : RV w φ lh v l) : ∀ {k : Nat},v.low k = true → (∀ n b,n < k → φ[n]? = some b → φ'[n]? = some b) → Fw w lh w' lh' → RV w' φ' lh' v l := by
  induction h with
  | undef l => intros; exact .undef l
  | bool b => intros; exact .bool b
  | int k n => intros; exact .int k n
  | str s => intros; exact .str s
  | ptr h => intro k hk hp _; exact .ptr (hp _ _ (by simpa [VV.low] using hk) h)
  | cptr hw hb hl hf h ih =>
    intro k hk hp fr
    obtain ⟨h1,h2⟩ := fr _ _ hb (fun m u h => by cases h) hw
    exact .cptr h1 h2 hl hf fun i v l hv hl => ih i v l hv hl (k := 0) (lowL_get hf hv) (fun n _ hn => absurd hn (Nat.not_lt_zero n)) fr
  | nilptr => intros; exact .nilptr
  | nil m => intros; exact .nil m
  | list0 m n off es full hm => intros; exact .list0 m n off es full hm
  | list hw hb hl hm hr h ih =>
    intro k hk hp fr
    obtain ⟨h1,h2⟩ := fr _ _ hb (fun m u h => by cases h) hw
    exact .list h1 h2 hl hm hr fun i row j v l hrow hv hl => ih i row j v l hrow hv hl (k := 0) (lowL_get (hr row (List.mem_of_getElem? hrow)).2 hv) (fun n _ hn => absurd hn (Nat.not_lt_zero n)) fr
  | hs h => intro k hk hp _; exact .hs (hp _ _ (by simpa [VV.low] using hk) h)
  | map h => intro k hk hp _; exact .map (hp _ _ (by simpa [VV.low] using hk) h)
  | nilmap => intros; exact .nilmap
  | func f cs ls hl h ih => intro k hk hp fr; exact .func f cs ls hl fun i v l hv hl => ih i v l hv hl (lowL_get (by simpa [VV.low] using hk) hv) hp fr
  | nilfunc => intros; exact .nilfunc
  | iface t h ih => intro k hk hp fr; exact .iface t (ih (by simpa [VV.low] using hk) hp fr)
  | nilif => intros; exact .nilif
  | agg cs ls hl h ih => intro k hk hp fr; exact .agg cs ls hl fun i v l hv hl => ih i v l hv hl (lowL_get (by simpa [VV.low] using hk) hv) hp fr
  | tup cs ls hl h ih => intro k hk hp fr; exact .tup cs ls hl fun i v l hv hl => ih i v l hv hl (lowL_get (by simpa [VV.low] using hk) hv) hp fr

theorem getElem?_lists {α β : Type} {cs : List α} {ls : List β} (hl : cs.length = ls.length) {i : Nat} {v : α} (hv : cs[i]? = some v) : ∃ l,ls[i]? = some l :=
  ⟨_,List.getElem?_eq_getElem (by rw [← hl]; exact lt_of_getElem? hv)⟩

/-- The blocks that a value names are there. -/
theorem RV.low {w : Own} {φ : List Nat} {lh : Heap} {v : VV} {l : LV} (h : RV w φ lh v l) : v.low φ.length = true := by
  induction h with
  | ptr h => simp only [VV.low,decide_eq_true_eq]; exact lt_of_getElem? h
  | hs h => simp only [VV.low,decide_eq_true_eq]; exact lt_of_getElem? h
  | map h => simp only [VV.low,decide_eq_true_eq]; exact lt_of_getElem? h
  | func f cs ls hl h ih => simp only [VV.low]; refine lowL_of fun v hv => ?_; obtain ⟨i,hi⟩ := List.mem_iff_getElem?.1 hv; obtain ⟨l,hl'⟩ := getElem?_lists hl hi; exact ih i v l hi hl'
  | iface t h ih => simpa [VV.low] using ih
  | agg cs ls hl h ih => simp only [VV.low]; refine lowL_of fun v hv => ?_; obtain ⟨i,hi⟩ := List.mem_iff_getElem?.1 hv; obtain ⟨l,hl'⟩ := getElem?_lists hl hi; exact ih i v l hi hl'
  | tup cs ls hl h ih => simp only [VV.low]; refine lowL_of fun v hv => ?_; obtain ⟨i,hi⟩ := List.mem_iff_getElem?.1 hv; obtain ⟨l,hl'⟩ := getElem?_lists hl hi; exact ih i v l hi hl'
  | _ => rfl

def PExt (φ φ' : List Nat) : Prop := ∀ (n b : Nat),φ[n]? = some b → φ'[n]? = some b
theorem PExt.refl (φ : List Nat) : PExt φ φ := fun _ _ h => h
theorem PExt.trans {a b c : List Nat} (h : PExt a b) (k : PExt b c) : PExt a c := fun n x e => k n x (h n x e)
theorem PExt.app (φ x : List Nat) : PExt φ (φ ++ x) := fun n b h => by rw [List.getElem?_append_left (lt_of_getElem? h)]; exact h

theorem RV.mono {w w' : Own} {φ φ' : List Nat} {lh lh' : Heap} {v : VV} {l : LV} (h : RV w φ lh v l) (hp : PExt φ φ') (fr : Fr w lh w' lh') : RV w' φ' lh' v l :=
  h.tr h.low (fun n b _ e => hp n b e) fr.weak

/-- The right to append. -/
def Tok (w : Own) (lh : Heap) (o : Owner) (v : VV) (l : LV) : Prop := ∀ r,v = .list .o r →
  l = .nilslice ∨ (∃ n off len es,l = .slice n off len es true) ∨
  ∃ n off len es lcs,l = .slice n off len es false ∧ lh[n]? = some (.cells false lcs) ∧ lh[n + 1]? = some (.tok n (off + len * es)) ∧ w (n + 1) = some o ∧ r ≠ []

def Same (o : Owner → Prop) (w : Own) (lh : Heap) (w' : Own) (lh' : Heap) : Prop := ∀ b x,b < lh.length → w b = some x → o x → w' b = some x ∧ lh'[b]? = lh[b]?

/-- The same,of rooms alone. -/
def SameT (o : Owner → Prop) (w : Own) (lh : Heap) (w' : Own) (lh' : Heap) : Prop := ∀ b x m u,lh[b]? = some (.tok m u) → w b = some x → o x → w' b = some x ∧ lh'[b]? = lh[b]?
theorem Same.t {o : Owner → Prop} {w w' : Own} {lh lh' : Heap} (h : Same o w lh w' lh') : SameT o w lh w' lh' := fun b x m u hb hw hx => h b x (lt_of_getElem? hb) hw hx
theorem Tok.monoT {w w' : Own} {lh lh' : Heap} {o : Owner} {v : VV} {l : LV} (h : Tok w lh o v l) (hr : ∃ φ,RV w φ lh v l) (fr : Fw w lh w' lh') (hs : SameT (· = o) w lh w' lh') : Tok w' lh' o v l := by
  intro r hv
  rcases h r hv with h | h | ⟨n,off,len,es,lcs,hl,h1,h2,h3,h4⟩
  · exact .inl h
  · exact .inr (.inl h)
  · refine .inr (.inr ⟨n,off,len,es,lcs,hl,?_,?_,?_,h4⟩)
    · obtain ⟨φ,hr⟩ := hr
      subst hv; subst hl
      cases hr with
      | list0 => exact absurd rfl h4
      | list hw hb => exact (fr _ _ h1 (fun m u h => by cases h) hw).2
    · rw [(hs _ _ _ _ h2 h3 rfl).2]; exact h2
    · exact (hs _ _ _ _ h2 h3 rfl).1
theorem Tok.mono {w w' : Own} {lh lh' : Heap} {o : Owner} {v : VV} {l : LV} (h : Tok w lh o v l) (hr : ∃ φ,RV w φ lh v l) (fr : Fw w lh w' lh') (hs : Same (· = o) w lh w' lh') : Tok w' lh' o v l := by
  intro r hv
  rcases h r hv with h | h | ⟨n,off,len,es,lcs,hl,h1,h2,h3,h4⟩
  · exact .inl h
  · exact .inr (.inl h)
  · refine .inr (.inr ⟨n,off,len,es,lcs,hl,?_,?_,?_,h4⟩)
    · obtain ⟨φ,hr⟩ := hr
      subst hv; subst hl
      cases hr with
      | list0 => exact absurd rfl h4
      | list hw hb => exact (fr _ _ h1 (fun m u h => by cases h) hw).2
    · rw [(hs _ _ (lt_of_getElem? h2) h3 rfl).2]; exact h2
    · exact (hs _ _ (lt_of_getElem? h2) h3 rfl).1
theorem Tok.no {w : Own} {lh : Heap} {o : Owner} {v : VV} {l : LV} (h : ∀ r,v ≠ .list .o r) : Tok w lh o v l := fun r hv => absurd hv (h r)

theorem sh_ne (v : VV) : ∀ r,v.sh ≠ .list .o r := by
  intro r
  unfold VV.sh
  split
  · intro h; cases h
  · rename_i h; exact fun e => h r e
theorem RV.sh {w : Own} {φ : List Nat} {lh : Heap} {v : VV} {l : LV} (h : RV w φ lh v l) : RV w φ lh v.sh l := by
  unfold VV.sh
  split
  · cases h with
    | nil => exact .nil _
    | list0 => exact .list0 _ _ _ _ _ (fun h => by cases h)
    | list hw hb hl hm hr h => exact .list hw hb hl (fun h => by cases h) hr h
  · exact h
theorem RV.ow {w : Own} {φ : List Nat} {lh : Heap} {v : VV} {l : LV} (h : RV w φ lh v l) : RV w φ lh v.ow l := by
  unfold VV.ow
  split
  · cases h with
    | nil => exact .nil _
    | list0 => exact .list0 _ _ _ _ _ (fun h => by cases h)
    | list hw hb hl hm hr h => exact .list hw hb hl (fun h => by cases h) hr h
  · exact h
/-- What is nil or full may be appended to. -/
theorem Tok.ow {w : Own} {φ : List Nat} {lh : Heap} {o : Owner} {v : VV} {l : LV} (h : RV w φ lh v l) (ht : Tok w lh o v l) : Tok w lh o v.ow l := by
  intro r hv
  unfold VV.ow at hv
  split at hv
  · rename_i r'
    cases h with
    | nil => exact .inl rfl
    | list0 _ n off es full hm => rw [hm rfl]; exact .inr (.inl ⟨_,_,_,_,rfl⟩)
    | list hw hb hl hm hr h => rw [hm rfl]; exact .inr (.inl ⟨_,_,_,_,rfl⟩)
  · exact ht r hv
theorem low_sh {v : VV} {k : Nat} : v.sh.low k = v.low k := by
  unfold VV.sh; split <;> simp [VV.low]
theorem low_ow {v : VV} {k : Nat} : v.ow.low k = v.low k := by
  unfold VV.ow; split <;> simp [VV.low]
/-- Lists of them. -/
def RVs (w : Own) (φ : List Nat) (lh : Heap) (vs : List VV) (ls : List LV) : Prop := vs.length = ls.length ∧ ∀ (i : Nat) (v : VV) (l : LV),vs[i]? = some v → ls[i]? = some l → RV w φ lh v l
section
variable {w w' : Own} {φ φ' : List Nat} {lh lh' : Heap}
theorem RVs.mono {vs : List VV} {ls : List LV} (h : RVs w φ lh vs ls) (hp : PExt φ φ') (fr : Fr w lh w' lh') : RVs w' φ' lh' vs ls := ⟨h.1,fun i v l a b => (h.2 i v l a b).mono hp fr⟩
theorem RVs.tr {vs : List VV} {ls : List LV} (h : RVs w φ lh vs ls) {k : Nat} (hk : lowL k vs = true) (hp : ∀ n b,n < k → φ[n]? = some b → φ'[n]? = some b) (fr : Fw w lh w' lh') : RVs w' φ' lh' vs ls :=
  ⟨h.1,fun i v l a b => (h.2 i v l a b).tr (lowL_get hk a) hp fr⟩
theorem RVs.low {vs : List VV} {ls : List LV} (h : RVs w φ lh vs ls) : lowL φ.length vs = true := lowL_of fun v hv => by
  obtain ⟨i,hi⟩ := List.mem_iff_getElem?.1 hv; obtain ⟨l,hl'⟩ := getElem?_lists h.1 hi; exact (h.2 i v l hi hl').low
theorem RVs.nil : RVs w φ lh [] [] := ⟨rfl,fun i v l h => by simp at h⟩
theorem RVs.cons {v : VV} {l : LV} {vs : List VV} {ls : List LV} (h : RV w φ lh v l) (hs : RVs w φ lh vs ls) : RVs w φ lh (v :: vs) (l :: ls) :=
  ⟨by simp [hs.1],fun i a b ha hb => by
    cases i with
    | zero => simp at ha hb; subst ha; subst hb; exact h
    | succ i => exact hs.2 i a b (by simpa using ha) (by simpa using hb)⟩
theorem RVs.uncons {v : VV} {l : LV} {vs : List VV} {ls : List LV} (h : RVs w φ lh (v :: vs) (l :: ls)) : RV w φ lh v l ∧ RVs w φ lh vs ls :=
  ⟨h.2 0 v l rfl rfl,by have := h.1; simpa using this,fun i a b ha hb => h.2 (i + 1) a b (by simpa using ha) (by simpa using hb)⟩
theorem RVs.get {vs : List VV} {ls : List LV} (h : RVs w φ lh vs ls) {i : Nat} {v : VV} (hv : vs[i]? = some v) : ∃ l,ls[i]? = some l ∧ RV w φ lh v l := by
  obtain ⟨l,hl⟩ := getElem?_lists h.1 hv
  exact ⟨l,hl,h.2 i v l hv hl⟩
theorem RVs.append {vs us : List VV} {ls ks : List LV} (h : RVs w φ lh vs ls) (k : RVs w φ lh us ks) : RVs w φ lh (vs ++ us) (ls ++ ks) := by
  refine ⟨by simp [h.1,k.1],fun i a b ha hb => ?_⟩
  rcases Nat.lt_or_ge i vs.length with hi | hi
  · rw [List.getElem?_append_left hi] at ha
    rw [List.getElem?_append_left (by rw [← h.1]; exact hi)] at hb
    exact h.2 i a b ha hb
  · rw [List.getElem?_append_right hi] at ha
    rw [List.getElem?_append_right (by rw [← h.1]; exact hi),← h.1] at hb
    exact k.2 _ a b ha hb
theorem RVs.take {vs : List VV} {ls : List LV} (h : RVs w φ lh vs ls) (n : Nat) : RVs w φ lh (vs.take n) (ls.take n) := by
  refine ⟨by simp [h.1],fun i a b ha hb => ?_⟩
  rw [List.getElem?_take] at ha hb
  split at ha
  · rename_i hi; rw [if_pos hi] at hb; exact h.2 i a b ha hb
  · cases ha
theorem RVs.drop {vs : List VV} {ls : List LV} (h : RVs w φ lh vs ls) (n : Nat) : RVs w φ lh (vs.drop n) (ls.drop n) := by
  refine ⟨by simp [h.1],fun i a b ha hb => ?_⟩
  rw [List.getElem?_drop] at ha hb
  exact h.2 _ a b ha hb
theorem RVs.splice {vs us : List VV} {ls ks : List LV} (h : RVs w φ lh vs ls) (k : RVs w φ lh us ks) (off : Nat) : RVs w φ lh (vsplice vs off us) (Lg.splice ls off ks) := by
  unfold vsplice Lg.splice
  rw [k.1]
  exact ((h.take off).append k).append (h.drop _)
theorem RVs.replicate {v : VV} {l : LV} (h : RV w φ lh v l) : ∀ n,RVs w φ lh (List.replicate n v) (List.replicate n l)
  | 0 => .nil
  | n + 1 => by rw [List.replicate_succ,List.replicate_succ]; exact .cons h (RVs.replicate h n)
theorem RVs.map {vs : List VV} {ls : List LV} (h : RVs w φ lh vs ls) {f : VV → VV} (hf : ∀ v l,RV w φ lh v l → RV w φ lh (f v) l) : RVs w φ lh (vs.map f) ls := by
  refine ⟨by simp [h.1],fun i a b ha hb => ?_⟩
  rw [List.getElem?_map] at ha
  obtain ⟨v,hv,rfl⟩ := Option.map_eq_some_iff.1 ha
  exact hf v b (h.2 i v b hv hb)
theorem RVs.agg {cs : List VV} {ls : List LV} (h : RVs w φ lh cs ls) : RV w φ lh (.agg cs) (.agg ls) := .agg cs ls h.1 h.2
theorem RVs.tup {cs : List VV} {ls : List LV} (h : RVs w φ lh cs ls) : RV w φ lh (.tup cs) (.tup ls) := .tup cs ls h.1 h.2

/-- A value's cells. -/
theorem RV.cells {v : VV} {l : LV} (h : RV w φ lh v l) (hu : v ≠ .undef) : RVs w φ lh v.cells l.cells := by
  cases h with
  | undef => exact absurd rfl hu
  | agg cs ls hl h => exact ⟨hl,h⟩
  | _ => exact .cons (by constructor <;> assumption) .nil
theorem RV.single {v : VV} {l : LV} (h : RV w φ lh v l) (hs : v.single = true) : l.single = true := by
  cases h <;> first | rfl | (simp [VV.single] at hs)
theorem RVs.single {vs : List VV} {ls : List LV} (h : RVs w φ lh vs ls) (hs : vs.all VV.single = true) : ls.all LV.single = true := by
  rw [List.all_eq_true] at hs ⊢
  intro l hl
  obtain ⟨i,hi⟩ := List.mem_iff_getElem?.1 hl
  obtain ⟨v,hv⟩ := getElem?_lists h.1.symm hi
  exact (h.2 i v l hv hi).single (hs v (List.mem_of_getElem? hv))

mutual
theorem ofLV_rv (w : Own) (φ : List Nat) (lh : Heap) : ∀ l : LV,RV w φ lh (ofLV l) l
  | .undef => .undef _
  | .bool b => .bool b
  | .int k n => .int k n
  | .str s => .str s
  | .ptr _ _ => .undef _
  | .nilptr => .nilptr
  | .slice _ _ _ _ _ => .undef _
  | .nilslice => .nil _
  | .map _ => .undef _
  | .nilmap => .nilmap
  | .func f cs => by
    cases cs with
    | nil => exact .func f [] [] rfl fun i v l h => by simp at h
    | cons c cs => exact .undef _
  | .nilfunc => .nilfunc
  | .iface _ _ => .undef _
  | .nilif => .nilif
  | .agg cs => (ofLVs_rv w φ lh cs).agg
  | .tup cs => (ofLVs_rv w φ lh cs).tup
theorem ofLVs_rv (w : Own) (φ : List Nat) (lh : Heap) : ∀ ls : List LV,RVs w φ lh (ofLVs ls) ls
  | [] => .nil
  | v :: r => .cons (ofLV_rv w φ lh v) (ofLVs_rv w φ lh r)
end
theorem ofLV_ne (l : LV) : ∀ r,ofLV l ≠ .list .o r := by
  intro r h
  cases l <;> simp [ofLV] at h
  rename_i f cs
  cases cs <;> simp at h
mutual
theorem ofLV_free : ∀ l : LV,(ofLV l).low 0 = true
  | .undef | .bool _ | .int _ _ | .str _ | .ptr _ _ | .nilptr | .slice _ _ _ _ _ | .nilslice | .map _ | .nilmap | .nilfunc | .iface _ _ | .nilif => rfl
  | .func f cs => by cases cs <;> rfl
  | .agg cs => by simp only [ofLV,VV.low]; exact ofLVs_free cs
  | .tup cs => by simp only [ofLV,VV.low]; exact ofLVs_free cs
theorem ofLVs_free : ∀ ls : List LV,lowL 0 (ofLVs ls) = true
  | [] => rfl
  | v :: r => by simp only [ofLVs,lowL,ofLV_free v,ofLVs_free r,Bool.and_self]
end
mutual
theorem low_mono {a b : Nat} (h : a ≤ b) : ∀ v : VV,v.low a = true → v.low b = true
  | .ptr n _,hv => by simp only [VV.low,decide_eq_true_eq] at hv ⊢; omega
  | .hs n _ _ _,hv => by simp only [VV.low,decide_eq_true_eq] at hv ⊢; omega
  | .map n,hv => by simp only [VV.low,decide_eq_true_eq] at hv ⊢; omega
  | .func _ cs,hv => by simp only [VV.low] at hv ⊢; exact lowL_mono h cs hv
  | .agg cs,hv => by simp only [VV.low] at hv ⊢; exact lowL_mono h cs hv
  | .tup cs,hv => by simp only [VV.low] at hv ⊢; exact lowL_mono h cs hv
  | .iface _ v,hv => by simp only [VV.low] at hv ⊢; exact low_mono h v hv
  | .undef,_ | .bool _,_ | .int _ _,_ | .str _,_ | .cptr _ _,_ | .nilptr,_ | .list _ _,_ | .nilmap,_ | .nilfunc,_ | .nilif,_ => rfl
theorem lowL_mono {a b : Nat} (h : a ≤ b) : ∀ vs : List VV,lowL a vs = true → lowL b vs = true
  | [],_ => rfl
  | v :: r,hv => by
    simp only [lowL,Bool.and_eq_true] at hv ⊢
    exact ⟨low_mono h v hv.1,lowL_mono h r hv.2⟩
end
mutual
theorem nrm_rv {φ : List Nat} {lh : Heap} : ∀ (v : VV) (l : LV),RV w φ lh v l → RV w φ lh (nrm v) l
  | .list m r,l,h => by
    simp only [nrm]
    cases h with
    | nil => exact .nil _
    | list0 => exact .list0 _ _ _ _ _ (fun h => by cases h)
    | list hw hb hl hm hr h => exact .list hw hb hl (fun h => by cases h) hr h
  | .agg cs,l,h => by
    simp only [nrm]
    cases h with
    | agg _ ls hl h => exact (nrmL_rv cs ls ⟨hl,h⟩).agg
  | .tup cs,l,h => by
    simp only [nrm]
    cases h with
    | tup _ ls hl h => exact (nrmL_rv cs ls ⟨hl,h⟩).tup
  | .undef,_,h | .bool _,_,h | .int _ _,_,h | .str _,_,h | .ptr _ _,_,h | .cptr _ _,_,h | .nilptr,_,h | .hs _ _ _ _,_,h | .map _,_,h | .nilmap,_,h | .func _ _,_,h | .nilfunc,_,h | .iface _ _,_,h | .nilif,_,h => by simpa only [nrm] using h
theorem nrmL_rv {φ : List Nat} {lh : Heap} : ∀ (vs : List VV) (ls : List LV),RVs w φ lh vs ls → RVs w φ lh (nrmL vs) ls
  | [],ls,h => h
  | v :: r,[],h => by have := h.1; simp at this
  | v :: r,l :: ls,h => by
    simp only [nrmL]
    exact .cons (nrm_rv v l h.uncons.1) (nrmL_rv r ls h.uncons.2)
end
mutual
theorem nrm_low (k : Nat) : ∀ v : VV,(nrm v).low k = v.low k
  | .list m r => rfl
  | .agg cs => by simp only [nrm,VV.low]; exact nrmL_low k cs
  | .tup cs => by simp only [nrm,VV.low]; exact nrmL_low k cs
  | .undef | .bool _ | .int _ _ | .str _ | .ptr _ _ | .cptr _ _ | .nilptr | .hs _ _ _ _ | .map _ | .nilmap | .func _ _ | .nilfunc | .iface _ _ | .nilif => by simp only [nrm]
theorem nrmL_low (k : Nat) : ∀ vs : List VV,lowL k (nrmL vs) = lowL k vs
  | [] => rfl
  | v :: r => by simp only [nrmL,lowL]; rw [nrm_low k v,nrmL_low k r]
end
theorem nrm_ne : ∀ (v : VV) (r : List (List VV)),nrm v ≠ .list .o r := by
  intro v r h
  cases v <;> simp [nrm] at h
theorem nrmL_eq : ∀ vs : List VV,nrmL vs = vs.map nrm
  | [] => rfl
  | v :: r => by simp only [nrmL,List.map_cons]; rw [nrmL_eq r]
theorem nrmL_length (vs : List VV) : (nrmL vs).length = vs.length := by rw [nrmL_eq]; simp

/-- A scalar is what it is. -/
theorem RV.sc {v : VV} {l : LV} (h : RV w φ lh v l) (hs : v.sc ≠ .undef) : l = v.sc := by
  cases h <;> first | rfl | (simp [VV.sc] at hs)
end

/-- A block stands for one of the logical machine. -/
def BV (lo : Nat) (w : Own) (φ : List Nat) (lh : Heap) (n pb : Nat) : VBlk → Prop
  | .cells rw cs => ∃ lrw lcs,lh[pb]? = some (.cells lrw lcs) ∧ RVs w φ lh cs lcs ∧ lowL (n + 1) cs = true ∧
      if rw = true ∧ lo ≤ n then lrw = true ∧ w pb = some (.blk n) ∧ ∀ (i : Nat) (v : VV) (l : LV),cs[i]? = some v → lcs[i]? = some l → Tok w lh (.cell n i) v l else (w pb = none ∨ w pb = some .ext)
  | .map es => ∃ les,lh[pb]? = some (.map les) ∧ es.length = les.length ∧ (∀ (i : Nat) (e : VV × VV) (le : LV × LV),es[i]? = some e → les[i]? = some le → e.1.sc = le.1 ∧ skey e.1 = true ∧ RV w φ lh e.2 le.2 ∧ e.2.low 0 = true) ∧
      if lo ≤ n then w pb = some (.blk n) else (w pb = none ∨ w pb = some .ext)
  | .dead => True

structure HS (lo : Nat) (w : Own) (φ : List Nat) (vh : VHeap) (lh : Heap) : Prop where
  len : φ.length = vh.length
  lol : lo ≤ vh.length
  blk : ∀ (n : Nat) (b : VBlk) (pb : Nat),vh[n]? = some b → φ[n]? = some pb → BV lo w φ lh n pb b
  new : ∀ b,lh.length ≤ b → w b = none
structure ES (w : Own) (φ : List Nat) (lh : Heap) (env : VEnv) (lenv : Env) : Prop where
  len : env.length = lenv.length
  get : ∀ (i : Nat) (v : VV) (l : LV),env[i]? = some v → lenv[i]? = some l → RV w φ lh v l ∧ Tok w lh (.env i) v l

/-- Owners that belong to a block. -/
def ofBlk (n : Nat) : Owner → Prop
  | .blk m => m = n
  | .cell m _ => m = n
  | _ => False

theorem BV.mono {lo : Nat} {w w' : Own} {φ φ' : List Nat} {lh lh' : Heap} {n pb : Nat} {b : VBlk} (h : BV lo w φ lh n pb b) (hp : PExt φ φ') (fr : Fr w lh w' lh') (hs : Same (ofBlk n) w lh w' lh') : BV lo w' φ' lh' n pb b := by
  cases b with
  | dead => exact True.intro
  | cells rw cs =>
    obtain ⟨lrw,lcs,h1,h2,h3,h4⟩ := h
    by_cases hc : rw = true ∧ lo ≤ n
    · rw [if_pos hc] at h4
      obtain ⟨h5,h6,h7⟩ := h4
      have h8 := hs pb _ (lt_of_getElem? h1) h6 rfl
      refine ⟨lrw,lcs,by rw [h8.2]; exact h1,h2.mono hp fr,h3,?_⟩
      rw [if_pos hc]
      exact ⟨h5,h8.1,fun i v l hv hl => (h7 i v l hv hl).mono ⟨φ,h2.2 i v l hv hl⟩ fr fun b x hb hx e => hs b x hb hx (by subst e; rfl)⟩
    · rw [if_neg hc] at h4
      have h8 := fr.stay pb (lt_of_getElem? h1) h4
      refine ⟨lrw,lcs,by rw [h8.2]; exact h1,h2.mono hp fr,h3,?_⟩
      rw [if_neg hc]; exact h8.1
  | map es =>
    obtain ⟨les,h1,h2,h3,h4⟩ := h
    have h8 : (if lo ≤ n then w' pb = some (.blk n) else (w' pb = none ∨ w' pb = some .ext)) ∧ lh'[pb]? = lh[pb]? := by
      by_cases hc : lo ≤ n
      · rw [if_pos hc] at h4 ⊢
        exact hs pb _ (lt_of_getElem? h1) h4 rfl
      · rw [if_neg hc] at h4 ⊢
        exact fr.stay pb (lt_of_getElem? h1) h4
    exact ⟨les,by rw [h8.2]; exact h1,h2,fun i e le a b => ⟨(h3 i e le a b).1,(h3 i e le a b).2.1,(h3 i e le a b).2.2.1.mono hp fr,(h3 i e le a b).2.2.2⟩,h8.1⟩

theorem HS.mono {lo : Nat} {w w' : Own} {φ : List Nat} {vh : VHeap} {lh lh' : Heap} (h : HS lo w φ vh lh) (fr : Fr w lh w' lh') (hs : ∀ n,Same (ofBlk n) w lh w' lh') (hn : ∀ b,lh'.length ≤ b → w' b = none) : HS lo w' φ vh lh' :=
  ⟨h.len,h.lol,fun n b pb hb hp => (h.blk n b pb hb hp).mono (PExt.refl _) fr (hs n),hn⟩
theorem ES.mono {w w' : Own} {φ φ' : List Nat} {lh lh' : Heap} {env : VEnv} {lenv : Env} (h : ES w φ lh env lenv) (hp : PExt φ φ') (fr : Fr w lh w' lh') (hs : ∀ i,Same (· = .env i) w lh w' lh') : ES w' φ' lh' env lenv :=
  ⟨h.len,fun i v l a b => ⟨(h.get i v l a b).1.mono hp fr,(h.get i v l a b).2.mono ⟨φ,(h.get i v l a b).1⟩ fr (hs i)⟩⟩
theorem ES.monoT {w w' : Own} {φ φ' : List Nat} {lh lh' : Heap} {env : VEnv} {lenv : Env} (h : ES w φ lh env lenv) (hp : PExt φ φ') (fr : Fr w lh w' lh') (hs : ∀ i,SameT (· = .env i) w lh w' lh') : ES w' φ' lh' env lenv :=
  ⟨h.len,fun i v l a b => ⟨(h.get i v l a b).1.mono hp fr,(h.get i v l a b).2.monoT ⟨φ,(h.get i v l a b).1⟩ fr.weak (hs i)⟩⟩
theorem ES.rvs {w : Own} {φ : List Nat} {lh : Heap} {env : VEnv} {lenv : Env} (h : ES w φ lh env lenv) : RVs w φ lh env lenv := ⟨h.len,fun i v l a b => (h.get i v l a b).1⟩

/-- One block is changed. -/
theorem HS.upd {lo : Nat} {w w' : Own} {φ : List Nat} {vh : VHeap} {lh lh' : Heap} (h : HS lo w φ vh lh) (fr : Fr w lh w' lh') {n : Nat} {b' : VBlk} (hs : ∀ m,m ≠ n → Same (ofBlk m) w lh w' lh') (hb : ∀ pb,φ[n]? = some pb → BV lo w' φ lh' n pb b') (hn : ∀ b,lh'.length ≤ b → w' b = none) : HS lo w' φ (vh.set n b') lh' := by
  refine ⟨by simp [h.len],by simp [h.lol],fun m b pb hb' hp => ?_,hn⟩
  rw [List.getElem?_set] at hb'
  split at hb'
  · rename_i e
    subst e
    split at hb'
    · cases hb'; exact hb pb hp
    · cases hb'
  · rename_i e
    exact (h.blk m b pb hb' hp).mono (PExt.refl _) fr (hs m fun x => e x.symm)
/-- One block is new. -/
theorem HS.push {lo : Nat} {w w' : Own} {φ : List Nat} {vh : VHeap} {lh lh' : Heap} (h : HS lo w φ vh lh) (fr : Fr w lh w' lh') (hs : ∀ m,m < vh.length → Same (ofBlk m) w lh w' lh') {b' : VBlk} {pb : Nat} (hb : BV lo w' (φ ++ [pb]) lh' vh.length pb b') (hn : ∀ b,lh'.length ≤ b → w' b = none) : HS lo w' (φ ++ [pb]) (vh ++ [b']) lh' := by
  refine ⟨by simp [h.len],by simp; have := h.lol; omega,fun m b q hb' hp => ?_,hn⟩
  rcases getElem?_snoc hb' with h1 | ⟨rfl,rfl⟩
  · have hm := lt_of_getElem? h1
    rw [List.getElem?_append_left (by rw [h.len]; exact hm)] at hp
    exact (h.blk m b q h1 hp).mono (PExt.app _ _) fr (hs m hm)
  · rw [← h.len] at hp
    rw [List.getElem?_concat_length] at hp
    cases hp; exact hb
end Vg
