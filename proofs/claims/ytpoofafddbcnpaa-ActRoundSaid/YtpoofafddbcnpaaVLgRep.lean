/- What a logical state stands for in the world. -/
import Derived.Test.YtpoofafddbcnpaaVLgPre
import Derived.Laws.IdiomCopy
import Derived.Laws.Cells
import Derived.Laws.Sem
import Derived.Below
namespace Lg
open Go Go.RowKit

structure Place where
  block : Nat
  off : Nat
  ext : Nat

def Place.at (p : Place) (i : Nat) : Addr := ⟨p.block,p.off + i,none⟩

/-- Two places share no cell. -/
def Dis (p q : Place) : Prop := p.block ≠ q.block ∨ p.off + p.ext ≤ q.off ∨ q.off + q.ext ≤ p.off ∨ p.ext = 0 ∨ q.ext = 0

theorem Dis.symm {p q : Place} (h : Dis p q) : Dis q p := by
  unfold Dis at *; omega

def Ext (ρ ρ' : List Place) : Prop := ∀ (n : Nat) (pl : Place),ρ[n]? = some pl → ρ'[n]? = some pl
theorem Ext.refl (ρ : List Place) : Ext ρ ρ := fun _ _ h => h
theorem Ext.trans {a b c : List Place} (h : Ext a b) (k : Ext b c) : Ext a c := fun n pl e => k n pl (h n pl e)
theorem Ext.app (ρ x : List Place) : Ext ρ (ρ ++ x) := fun n pl h => by
  have : n < ρ.length := by
    rcases Nat.lt_or_ge n ρ.length with h' | h'
    · exact h'
    · rw [List.getElem?_eq_none h'] at h; cases h
  rw [List.getElem?_append_left this]; exact h

/-- A value stands for a logical one. -/
inductive VR (ρ : List Place) : Value → LV → Prop where
  | undef (v : Value) : VR ρ v .undef
  | bool (b : Bool) : VR ρ (.bool b) (.bool b)
  | int (k : IntKind) (n : Int) : VR ρ (.int k n) (.int k n)
  | str (s : ByteArray) : VR ρ (.string s) (.str s.data.toList)
  | ptr {n off : Nat} {pl : Place} (h : ρ[n]? = some pl) : VR ρ (.pointer (some (pl.at off))) (.ptr n off)
  | nilptr : VR ρ (.pointer none) .nilptr
  | slice {n off len cap es : Nat} {full : Bool} {pl : Place} (h : ρ[n]? = some pl) (hc : len ≤ cap) (hx : off + cap * es ≤ pl.ext) (hf : full = true → cap = len) :
      VR ρ (.slice (some (pl.at off)) len cap) (.slice n off len es full)
  | slice0 (a : Addr) {n : Nat} (off es : Nat) (full : Bool) {pl : Place} (h : ρ[n]? = some pl) : VR ρ (.slice (some a) 0 0) (.slice n off 0 es full)
  | nilslice : VR ρ (.slice none 0 0) .nilslice
  | map {n : Nat} {pl : Place} (h : ρ[n]? = some pl) : VR ρ (.map (some pl.block)) (.map n)
  | nilmap : VR ρ (.map none) .nilmap
  | func (f : FuncId) (cs : Array Value) (ls : List LV) (hl : cs.size = ls.length) (h : ∀ (i : Nat) (v : Value) (l : LV),cs[i]? = some v → ls[i]? = some l → VR ρ v l) :
      VR ρ (.func (.func f) #[] cs) (.func f ls)
  | nilfunc : VR ρ .nilFunc .nilfunc
  | iface (t : TypeId) {v : Value} {l : LV} (h : VR ρ v l) : VR ρ (.iface t v) (.iface t l)
  | nilif : VR ρ .nilIface .nilif
  | agg (cs : Array Value) (ls : List LV) (hl : cs.size = ls.length) (h : ∀ (i : Nat) (v : Value) (l : LV),cs[i]? = some v → ls[i]? = some l → VR ρ v l) : VR ρ (.agg cs) (.agg ls)
  | tup (cs : Array Value) (ls : List LV) (hl : cs.size = ls.length) (h : ∀ (i : Nat) (v : Value) (l : LV),cs[i]? = some v → ls[i]? = some l → VR ρ v l) : VR ρ (.tuple cs) (.tup ls)

theorem VR.mono {ρ ρ' : List Place} (he : Ext ρ ρ') {v : Value} {l : LV} (h : VR ρ v l) : VR ρ' v l := by
  induction h with
  | undef v => exact .undef v
  | bool b => exact .bool b
  | int k n => exact .int k n
  | str s => exact .str s
  | ptr h => exact .ptr (he _ _ h)
  | nilptr => exact .nilptr
  | slice h hc hx hf => exact .slice (he _ _ h) hc hx hf
  | slice0 a off es full h => exact .slice0 a off es full (he _ _ h)
  | nilslice => exact .nilslice
  | map h => exact .map (he _ _ h)
  | nilmap => exact .nilmap
  | func f cs ls hl _ ih => exact .func f cs ls hl ih
  | nilfunc => exact .nilfunc
  | iface t _ ih => exact .iface t ih
  | nilif => exact .nilif
  | agg cs ls hl _ ih => exact .agg cs ls hl ih
  | tup cs ls hl _ ih => exact .tup cs ls hl ih

/-- Lists of them. -/
def VRs (ρ : List Place) (vs : List Value) (ls : List LV) : Prop := vs.length = ls.length ∧ ∀ (i : Nat) (v : Value) (l : LV),vs[i]? = some v → ls[i]? = some l → VR ρ v l

theorem VRs.mono {ρ ρ' : List Place} (he : Ext ρ ρ') {vs : List Value} {ls : List LV} (h : VRs ρ vs ls) : VRs ρ' vs ls :=
  ⟨h.1,fun i v l a b => (h.2 i v l a b).mono he⟩
theorem VRs.nil (ρ : List Place) : VRs ρ [] [] := ⟨rfl,fun i v l h => by simp at h⟩
theorem VRs.cons {ρ : List Place} {v : Value} {l : LV} {vs : List Value} {ls : List LV} (h : VR ρ v l) (hs : VRs ρ vs ls) : VRs ρ (v :: vs) (l :: ls) :=
  ⟨by simp [hs.1],fun i a b ha hb => by
    cases i with
    | zero => simp at ha hb; subst ha; subst hb; exact h
    | succ i => exact hs.2 i a b (by simpa using ha) (by simpa using hb)⟩
theorem VRs.get {ρ : List Place} {vs : List Value} {ls : List LV} (h : VRs ρ vs ls) {i : Nat} {l : LV} (hl : ls[i]? = some l) : ∃ v,vs[i]? = some v ∧ VR ρ v l := by
  have hi : i < ls.length := by
    rcases Nat.lt_or_ge i ls.length with h' | h'
    · exact h'
    · rw [List.getElem?_eq_none h'] at hl; cases hl
  have hj : i < vs.length := by rw [h.1]; exact hi
  have hv : vs[i]? = some vs[i] := List.getElem?_eq_getElem hj
  exact ⟨_,hv,h.2 i _ _ hv hl⟩
theorem VRs.append {ρ : List Place} {vs us : List Value} {ls ks : List LV} (h : VRs ρ vs ls) (k : VRs ρ us ks) : VRs ρ (vs ++ us) (ls ++ ks) := by
  refine ⟨by simp [h.1,k.1],fun i a b ha hb => ?_⟩
  rcases Nat.lt_or_ge i vs.length with hi | hi
  · rw [List.getElem?_append_left hi] at ha
    rw [List.getElem?_append_left (by rw [← h.1]; exact hi)] at hb
    exact h.2 i a b ha hb
  · rw [List.getElem?_append_right hi] at ha
    rw [List.getElem?_append_right (by rw [← h.1]; exact hi),← h.1] at hb
    exact k.2 _ a b ha hb
theorem VRs.take {ρ : List Place} {vs : List Value} {ls : List LV} (h : VRs ρ vs ls) (n : Nat) : VRs ρ (vs.take n) (ls.take n) := by
  refine ⟨by simp [h.1],fun i a b ha hb => ?_⟩
  rw [List.getElem?_take] at ha hb
  split at ha
  · rename_i hi; rw [if_pos hi] at hb; exact h.2 i a b ha hb
  · cases ha
theorem VRs.drop {ρ : List Place} {vs : List Value} {ls : List LV} (h : VRs ρ vs ls) (n : Nat) : VRs ρ (vs.drop n) (ls.drop n) := by
  refine ⟨by simp [h.1],fun i a b ha hb => ?_⟩
  rw [List.getElem?_drop] at ha hb
  exact h.2 _ a b ha hb
theorem VRs.of_agg {ρ : List Place} {cs : Array Value} {ls : List LV} (hl : cs.size = ls.length) (h : ∀ (i : Nat) (v : Value) (l : LV),cs[i]? = some v → ls[i]? = some l → VR ρ v l) : VRs ρ cs.toList ls :=
  ⟨by simpa using hl,fun i v l a b => h i v l (by simpa using a) b⟩
theorem VRs.agg {ρ : List Place} {cs : Array Value} {ls : List LV} (h : VRs ρ cs.toList ls) : VR ρ (.agg cs) (.agg ls) :=
  .agg cs ls (by simpa using h.1) fun i v l a b => h.2 i v l (by simpa using a) b
theorem VRs.tup {ρ : List Place} {cs : Array Value} {ls : List LV} (h : VRs ρ cs.toList ls) : VR ρ (.tuple cs) (.tup ls) :=
  .tup cs ls (by simpa using h.1) fun i v l a b => h.2 i v l (by simpa using a) b
theorem VRs.replicate (ρ : List Place) {v : Value} {l : LV} (h : VR ρ v l) : ∀ n,VRs ρ (List.replicate n v) (List.replicate n l)
  | 0 => .nil ρ
  | n + 1 => by rw [List.replicate_succ,List.replicate_succ]; exact .cons h (VRs.replicate ρ h n)
theorem VRs.set {ρ : List Place} {vs : List Value} {ls : List LV} (h : VRs ρ vs ls) {v : Value} {l : LV} (hv : VR ρ v l) (n : Nat) : VRs ρ (vs.set n v) (ls.set n l) := by
  refine ⟨by simp [h.1],fun i a b ha hb => ?_⟩
  rw [List.getElem?_set] at ha hb
  split at ha
  · rename_i hi
    rw [if_pos hi] at hb
    split at ha
    · simp at ha
      split at hb
      · simp at hb; subst ha; subst hb; exact hv
      · cases hb
    · cases ha
  · rename_i hi
    rw [if_neg hi] at hb
    exact h.2 i a b ha hb
theorem VRs.splice {ρ : List Place} {vs us : List Value} {ls ks : List LV} (h : VRs ρ vs ls) (k : VRs ρ us ks) (off : Nat) :
    VRs ρ (vs.take off ++ us ++ vs.drop (off + us.length)) (Lg.splice ls off ks) := by
  unfold Lg.splice
  rw [k.1]
  exact ((h.take off).append k).append (h.drop _)

/-- A value's cells stand for the logical value's. -/
theorem VR.cells {ρ : List Place} {v : Value} {l : LV} (h : VR ρ v l) (hu : l ≠ .undef) : VRs ρ v.cells.toList l.cells := by
  cases h with
  | undef => exact absurd rfl hu
  | agg cs ls hl h => exact VRs.of_agg hl h
  | _ => exact .cons (by constructor <;> assumption) (.nil ρ)

theorem VR.single_oneCell {ρ : List Place} {v : Value} {l : LV} (h : VR ρ v l) (hs : l.single = true) : v.oneCell' = true := by
  cases h <;> first | rfl | (simp [LV.single] at hs)

def LBlk.rw : LBlk → Bool
  | .cells rw _ => rw
  | .map _ => true
  | .tok _ _ => true
  | .dead => false
def LBlk.live : LBlk → Bool
  | .dead => false
  | _ => true

/-- Of what is only read,no more than its cells are held. -/
def LBlk.span : LBlk → Place → Place
  | .cells false cs,pl => ⟨pl.block,pl.off,cs.length⟩
  | _,pl => pl
theorem LBlk.span_block (b : LBlk) (pl : Place) : (b.span pl).block = pl.block := by
  unfold LBlk.span; split <;> rfl
theorem LBlk.span_off (b : LBlk) (pl : Place) : (b.span pl).off = pl.off := by
  unfold LBlk.span; split <;> rfl
theorem LBlk.span_rw {b : LBlk} (h : b.rw = true) (pl : Place) : b.span pl = pl := by
  unfold LBlk.span; split
  · cases h
  · rfl

/-- A block stands at a place. -/
def BR (ρ : List Place) (w : World) (pl : Place) : LBlk → Prop
  | .cells rw cs => cs.all LV.single = true ∧ cs.length ≤ pl.ext ∧ (∀ (i : Nat) (l : LV),cs[i]? = some l → ∃ v,w.cell? (pl.at i) = some v ∧ VR ρ v l) ∧
      (rw = true → ∀ i,i < pl.ext → (w.cell? (pl.at i)).isSome = true ∧ w.frozen? (pl.at i) = false)
  | .map es => 1 ≤ pl.ext ∧ pl.off = 0 ∧ ∃ (ms : Array MapEntry) (c : Nat),w.heap[pl.block]? = some (.map ms c) ∧ ms.size = es.length ∧
      ∀ (i : Nat) (m : MapEntry) (e : LV × LV),ms[i]? = some m → es[i]? = some e → VR ρ m.key e.1 ∧ VR ρ m.val e.2
  | .tok m u => (∃ pm,ρ[m]? = some pm ∧ u ≤ pm.ext ∧ pl = ⟨pm.block,pm.off + u,pm.ext - u⟩) ∧ ∀ i,i < pl.ext → (w.cell? (pl.at i)).isSome = true ∧ w.frozen? (pl.at i) = false
  | .dead => True

theorem BR.span_le {ρ : List Place} {w : World} {pl : Place} {b : LBlk} (h : BR ρ w pl b) : (b.span pl).ext ≤ pl.ext := by
  unfold LBlk.span; split
  · exact h.2.1
  · exact Nat.le_refl _
theorem Dis.span {p q : Place} {b : LBlk} (h : Dis p q) (hl : (b.span q).ext ≤ q.ext) : Dis p (b.span q) := by
  unfold Dis at h ⊢
  rw [LBlk.span_block,LBlk.span_off]; omega

/-- The place is as it was. -/
structure Keeps (w w' : World) (pl : Place) : Prop where
  cell : ∀ i,i < pl.ext → w'.cell? (pl.at i) = w.cell? (pl.at i)
  froz : ∀ i,i < pl.ext → w'.frozen? (pl.at i) = w.frozen? (pl.at i)
  map : 1 ≤ pl.ext → pl.off = 0 → ∀ (es : Array MapEntry) (c : Nat),w.heap[pl.block]? = some (.map es c) → w'.heap[pl.block]? = some (.map es c)

theorem BR.keeps {ρ ρ' : List Place} {w w' : World} {pl : Place} {b : LBlk} (h : BR ρ w pl b) (he : Ext ρ ρ') (k : Keeps w w' (b.span pl)) : BR ρ' w' pl b := by
  cases b with
  | dead => exact True.intro
  | tok m u =>
    obtain ⟨⟨pm,h1,h2⟩,h3⟩ := h
    exact ⟨⟨pm,he _ _ h1,h2⟩,fun i hi => by
      have c := k.cell i hi
      have f := k.froz i hi
      simp only [LBlk.span] at c f
      rw [c,f]; exact h3 i hi⟩
  | cells rw cs =>
    obtain ⟨h0,h1,h2,h3⟩ := h
    refine ⟨h0,h1,fun i l hl => ?_,fun hr i hi => ?_⟩
    · obtain ⟨v,hv,hr⟩ := h2 i l hl
      have hi : i < cs.length := by
        rcases Nat.lt_or_ge i cs.length with h' | h'
        · exact h'
        · rw [List.getElem?_eq_none h'] at hl; cases hl
      have hc : w'.cell? (pl.at i) = w.cell? (pl.at i) := by
        cases rw with
        | true => exact k.cell i (show i < pl.ext by omega)
        | false => exact k.cell i hi
      exact ⟨v,by rw [hc]; exact hv,hr.mono he⟩
    · subst hr
      have c := k.cell i hi
      have f := k.froz i hi
      simp only [LBlk.span] at c f
      rw [c,f]; exact h3 rfl i hi
  | map es =>
    obtain ⟨h0,h1,ms,c,h2,h3,h4⟩ := h
    exact ⟨h0,h1,ms,c,k.map h0 h1 ms c h2,h3,fun i m e a b => ⟨(h4 i m e a b).1.mono he,(h4 i m e a b).2.mono he⟩⟩

/-- Where a run begins; and are its draws counted? -/
structure Ini (m : Bool) extends World
/-- What a run may have done so far. -/
structure Bel {m : Bool} (B : Nat) (a : Ini m) (w : World) : Prop extends Below B a.toWorld w where
  dr : m = true → a.drawn ≤ w.drawn
theorem Bel.alloc {m : Bool} {B : Nat} {a : Ini m} {w : World} (h : Bel B a w) (hB : B ≤ w.heap.size) (o : Obj) : Bel B a (w.alloc o) := ⟨h.toBelow.alloc hB o,h.dr⟩
theorem Bel.drew {m : Bool} {B : Nat} {a : Ini m} {w : World} (h : Bel B a w) : Bel B a w.drew := ⟨h.toBelow.drew,fun e => Nat.le_trans (h.dr e) (Nat.le_succ _)⟩
theorem setCells_drawn (b : Nat) : ∀ (vs : List Value) (o : Nat) (w : World),(w.setCells b o vs).drawn = w.drawn
  | [],_,_ => rfl
  | v :: vs,o,w => by rw [World.setCells,setCells_drawn b vs]; rfl
theorem Below.setCells {B : Nat} {a : World} (b : Nat) (hb : B ≤ b) : ∀ (vs : List Value) (o : Nat) (w : World),Below B a w → Below B a (w.setCells b o vs)
  | [],_,_,h => h
  | v :: vs,o,w,h => by rw [World.setCells]; exact Below.setCells b hb vs _ _ (h.setCell (p := ⟨b,o,none⟩) hb v)
theorem Bel.setCells {m : Bool} {B : Nat} {a : Ini m} (b : Nat) (hb : B ≤ b) (vs : List Value) (o : Nat) (w : World) (h : Bel B a w) : Bel B a (w.setCells b o vs) :=
  ⟨Below.setCells b hb vs o w h.toBelow,fun e => by rw [setCells_drawn]; exact h.dr e⟩

/-- The heap stands for the logical one; below the world's size at the beginning nothing has changed. -/
structure Rep {m : Bool} (w0 : Ini m) (ρ : List Place) (h : Heap) (w : World) : Prop where
  len : ρ.length = h.length
  below : Bel w0.heap.size w0 w
  lt : ∀ (n : Nat) (pl : Place),ρ[n]? = some pl → pl.block < w.heap.size ∨ pl.ext = 0
  blk : ∀ (n : Nat) (b : LBlk) (pl : Place),h[n]? = some b → ρ[n]? = some pl → BR ρ w pl b
  own : ∀ (n : Nat) (b : LBlk) (pl : Place),h[n]? = some b → b.rw = true → ρ[n]? = some pl → w0.heap.size ≤ pl.block
  dis : ∀ (n m : Nat) (b c : LBlk) (pl pm : Place),n ≠ m → h[n]? = some b → h[m]? = some c → ρ[n]? = some pl → ρ[m]? = some pm → b.rw = true → c.live = true → Dis pl (c.span pm)

theorem lt_of_getElem? {α : Type} {l : List α} {n : Nat} {a : α} (h : l[n]? = some a) : n < l.length := by
  rcases Nat.lt_or_ge n l.length with h' | h'
  · exact h'
  · rw [List.getElem?_eq_none h'] at h; cases h

theorem Rep.place {m : Bool} {w0 : Ini m} {ρ : List Place} {h : Heap} {w : World} (R : Rep w0 ρ h w) {n : Nat} {b : LBlk} (hb : h[n]? = some b) : ∃ pl,ρ[n]? = some pl :=
  ⟨_,List.getElem?_eq_getElem (by rw [R.len]; exact lt_of_getElem? hb)⟩

theorem Keeps.refl (w : World) (pl : Place) : Keeps w w pl := ⟨fun _ _ => rfl,fun _ _ => rfl,fun _ _ _ _ h => h⟩
theorem Keeps.drew (w : World) (pl : Place) : Keeps w w.drew pl := ⟨fun _ _ => rfl,fun _ _ => rfl,fun _ _ _ _ h => h⟩
theorem Keeps.alloc (w : World) (o : Obj) (pl : Place) (hl : pl.block < w.heap.size ∨ pl.ext = 0) : Keeps w (w.alloc o) pl := by
  rcases hl with hl | hl
  · exact ⟨fun i _ => World.cell?_alloc_lt _ _ _ hl,fun i _ => World.frozen?_alloc_old _ _ _ (Nat.ne_of_lt hl),fun _ _ es c h => by
      rw [Below.heap_alloc _ _ _ hl]; exact h⟩
  · exact ⟨fun i hi => by omega,fun i hi => by omega,fun h1 => by omega⟩
theorem Keeps.trans {a b c : World} {pl : Place} (h : Keeps a b pl) (k : Keeps b c pl) : Keeps a c pl :=
  ⟨fun i hi => (k.cell i hi).trans (h.cell i hi),fun i hi => (k.froz i hi).trans (h.froz i hi),fun h0 h1 es cc e => k.map h0 h1 es cc (h.map h0 h1 es cc e)⟩

theorem setCells_heap_map (b : Nat) : ∀ (vs : List Value) (o : Nat) (w : World) (r : Nat) (es : Array MapEntry) (c : Nat),w.heap[r]? = some (.map es c) → (w.setCells b o vs).heap[r]? = some (.map es c)
  | [],_,_,_,_,_,h => h
  | v :: vs,o,w,r,es,c,h => by
    rw [World.setCells]
    refine setCells_heap_map b vs (o + 1) _ r es c ?_
    simp only [World.setCell,Array.getElem?_modify]
    split
    · rename_i e; subst e; rw [h]; rfl
    · exact h

theorem setCells_size (b : Nat) : ∀ (vs : List Value) (o : Nat) (w : World),(w.setCells b o vs).heap.size = w.heap.size
  | [],_,_ => rfl
  | v :: vs,o,w => by rw [World.setCells,setCells_size b vs]; exact World.size_setCell _ _ _


theorem Keeps.setCells (w : World) (pl q : Place) (off : Nat) (vs : List Value) (hd : Dis q pl) (hv : off + vs.length ≤ q.ext) : Keeps w (w.setCells q.block (q.off + off) vs) pl := by
  refine ⟨fun i hi => ?_,fun i hi => World.frozen?_setCells _ _ _ _ _,fun _ _ es c h => setCells_heap_map _ _ _ _ _ _ _ h⟩
  refine World.cell?_setCells_out _ _ _ _ _ (fun h1 _ => ?_)
  simp only [Place.at] at h1 ⊢
  unfold Dis at hd
  rcases hd with hd | hd | hd | hd | hd
  · exact absurd h1.symm hd
  · exact .inr (by omega)
  · exact .inl (by omega)
  · omega
  · omega

/-- One block is replaced,the rest is kept. -/
theorem Rep.upd {m : Bool} {w0 : Ini m} {ρ : List Place} {h : Heap} {w w' : World} (R : Rep w0 ρ h w) {n : Nat} {b b' : LBlk} {pl : Place} (hn : h[n]? = some b) (hp : ρ[n]? = some pl)
    (hrw : b'.rw = true → b.rw = true) (hlive : b'.live = true → b.live = true) (hb : BR ρ w' pl b') (hB : Bel w0.heap.size w0 w') (hs : w.heap.size ≤ w'.heap.size)
    (hk : ∀ (m : Nat) (c : LBlk) (pm : Place),m ≠ n → h[m]? = some c → c.live = true → ρ[m]? = some pm → Keeps w w' (c.span pm)) (hrb : b.rw = true) : Rep w0 ρ (h.set n b') w' := by
  have get : ∀ (m : Nat) (c : LBlk),(h.set n b')[m]? = some c → (m = n ∧ c = b') ∨ (m ≠ n ∧ h[m]? = some c) := by
    intro m c hc
    rw [List.getElem?_set] at hc
    split at hc
    · rename_i e
      split at hc
      · simp at hc; exact .inl ⟨e.symm,hc.symm⟩
      · cases hc
    · rename_i e; exact .inr ⟨fun x => e x.symm,hc⟩
  refine ⟨by simp [R.len],hB,fun m pm hm => (R.lt m pm hm).imp (fun h => Nat.lt_of_lt_of_le h hs) id,?_,?_,?_⟩
  · intro m c pm hc hm
    rcases get m c hc with ⟨rfl,rfl⟩ | ⟨hne,hc'⟩
    · rw [hp] at hm; cases hm; exact hb
    · cases hl : c.live with
      | true => exact (R.blk m c pm hc' hm).keeps (Ext.refl _) (hk m c pm hne hc' hl hm)
      | false => cases c <;> first | (simp [LBlk.live] at hl; done) | trivial
  · intro m c pm hc hr hm
    rcases get m c hc with ⟨rfl,rfl⟩ | ⟨hne,hc'⟩
    · exact R.own m b pm hn (hrw hr) hm
    · exact R.own m c pm hc' hr hm
  · intro m k c d pm pk hne hc hd hm hk' hr hl
    rcases get m c hc with ⟨rfl,rfl⟩ | ⟨h1,hc'⟩ <;> rcases get k d hd with ⟨rfl,rfl⟩ | ⟨h2,hd'⟩
    · exact absurd rfl hne
    · exact R.dis m k b d pm pk hne hn hd' hm hk' (hrw hr) hl
    · have h1 := R.dis m k c b pm pk hne hc' hn hm hk' hr (hlive hl)
      rw [LBlk.span_rw hrb] at h1
      rw [hp] at hk'; cases hk'
      exact h1.span hb.span_le
    · exact R.dis m k c d pm pk hne hc' hd' hm hk' hr hl

theorem getElem?_snoc {α : Type} {l : List α} {a x : α} {m : Nat} (h : (l ++ [a])[m]? = some x) : l[m]? = some x ∨ (m = l.length ∧ x = a) := by
  rcases Nat.lt_or_ge m l.length with h' | h'
  · rw [List.getElem?_append_left h'] at h; exact .inl h
  · rw [List.getElem?_append_right h'] at h
    rcases Nat.eq_zero_or_pos (m - l.length) with h0 | h0
    · rw [h0] at h; simp at h; exact .inr ⟨by omega,h.symm⟩
    · rw [List.getElem?_eq_none (by simp; omega)] at h; cases h

/-- A new block,at a place that meets no live one. -/
theorem Rep.push {m : Bool} {w0 : Ini m} {ρ : List Place} {h : Heap} {w w' : World} (R : Rep w0 ρ h w) {b : LBlk} {pl : Place}
    (hb : BR (ρ ++ [pl]) w' pl b) (hB : Bel w0.heap.size w0 w') (hs : w.heap.size ≤ w'.heap.size) (hlt : pl.block < w'.heap.size ∨ pl.ext = 0) (hown : b.rw = true → w0.heap.size ≤ pl.block)
    (hk : ∀ (m : Nat) (c : LBlk) (pm : Place),h[m]? = some c → c.live = true → ρ[m]? = some pm → Keeps w w' (c.span pm))
    (hd : b.rw = true → ∀ (m : Nat) (c : LBlk) (pm : Place),h[m]? = some c → c.live = true → ρ[m]? = some pm → Dis pl (c.span pm))
    (hd2 : b.live = true → ∀ (m : Nat) (c : LBlk) (pm : Place),h[m]? = some c → c.rw = true → ρ[m]? = some pm → Dis pm (b.span pl)) : Rep w0 (ρ ++ [pl]) (h ++ [b]) w' := by
  have low : ∀ (m : Nat) (pm : Place) (c : LBlk),(ρ ++ [pl])[m]? = some pm → h[m]? = some c → ρ[m]? = some pm := by
    intro m pm c h1 h2
    rcases getElem?_snoc h1 with h | ⟨e,_⟩
    · exact h
    · exact absurd (lt_of_getElem? h2) (by rw [e,R.len]; exact Nat.lt_irrefl _)
  have high : ∀ (pm : Place) (m : Nat),m = h.length → (ρ ++ [pl])[m]? = some pm → pm = pl := by
    intro pm m e h1
    rcases getElem?_snoc h1 with h | ⟨_,e'⟩
    · exact absurd (lt_of_getElem? h) (by rw [e,R.len]; exact Nat.lt_irrefl _)
    · exact e'
  refine ⟨by simp [R.len],hB,?_,?_,?_,?_⟩
  · intro m pm hm
    rcases getElem?_snoc hm with h1 | ⟨_,rfl⟩
    · exact (R.lt m pm h1).imp (fun h => Nat.lt_of_lt_of_le h hs) id
    · exact hlt
  · intro m c pm hc hm
    rcases getElem?_snoc hc with h1 | ⟨e,rfl⟩
    · have hp := low m pm c hm h1
      cases hl : c.live with
      | true => exact (R.blk m c pm h1 hp).keeps (Ext.app _ _) (hk m c pm h1 hl hp)
      | false => cases c <;> first | (simp [LBlk.live] at hl; done) | trivial
    · rw [high pm m e hm]; exact hb
  · intro m c pm hc hr hm
    rcases getElem?_snoc hc with h1 | ⟨e,rfl⟩
    · exact R.own m c pm h1 hr (low m pm c hm h1)
    · rw [high pm m e hm]; exact hown hr
  · intro m k c d pm pk hne hc hd' hm hk' hr hl
    rcases getElem?_snoc hc with h1 | ⟨e1,rfl⟩ <;> rcases getElem?_snoc hd' with h2 | ⟨e2,rfl⟩
    · exact R.dis m k c d pm pk hne h1 h2 (low m pm c hm h1) (low k pk d hk' h2) hr hl
    · rw [high pk k e2 hk']
      exact hd2 hl m c pm h1 hr (low m pm c hm h1)
    · rw [high pm m e1 hm]
      exact hd hr k d pk h2 hl (low k pk d hk' h2)
    · exact absurd (e1.trans e2.symm) hne

theorem Rep.ltS {m : Bool} {w0 : Ini m} {ρ : List Place} {h : Heap} {w : World} (R : Rep w0 ρ h w) {m : Nat} {c : LBlk} {pm : Place} (hc : h[m]? = some c) (hm : ρ[m]? = some pm) : (c.span pm).block < w.heap.size ∨ (c.span pm).ext = 0 := by
  have h1 := R.lt m pm hm
  have h2 := (R.blk m c pm hc hm).span_le
  rw [LBlk.span_block]; omega
theorem Rep.fresh_dis {m : Bool} {w0 : Ini m} {ρ : List Place} {h : Heap} {w : World} (R : Rep w0 ρ h w) {m : Nat} {pm : Place} (n : Nat) (hm : ρ[m]? = some pm) : Dis ⟨w.heap.size,0,n⟩ pm := by
  have := R.lt m pm hm
  unfold Dis; simp; omega
/-- A new row of cells. -/
theorem Rep.alloc {m : Bool} {w0 : Ini m} {ρ : List Place} {h : Heap} {w : World} (R : Rep w0 ρ h w) {cs : List LV} {vs : Array Value} {n : Nat} (t : TypeId) (hs : cs.all LV.single = true) (hv : VRs ρ (vs.toList.take n) cs) (hn : n ≤ vs.size) :
    Rep w0 (ρ ++ [⟨w.heap.size,0,vs.size⟩]) (h ++ [.cells true cs]) (w.alloc (.cells vs t)) := by
  have hlen : cs.length = n := by have := hv.1; simp at this; omega
  refine R.push ?_ (R.below.alloc R.below.size _) (by simp) (.inl (by simp)) (fun _ => R.below.size) (fun m c pm hc hl hm => Keeps.alloc _ _ _ (R.ltS hc hm)) (fun _ m c pm hc hl hm => (R.fresh_dis (vs.size) hm).span (R.blk m c pm hc hm).span_le) (fun _ m c pm hc hr hm => (R.fresh_dis (vs.size) hm).symm)
  · refine ⟨hs,by simp; omega,fun i l hl => ?_,fun _ i hi => ?_⟩
    · obtain ⟨v,hv1,hv2⟩ := hv.get hl
      refine ⟨v,?_,hv2.mono (Ext.app _ _)⟩
      simp only [Place.at,Nat.zero_add]
      rw [World.cell?_alloc_new]
      rw [List.getElem?_take] at hv1
      split at hv1
      · simpa using hv1
      · cases hv1
    · simp only [Place.at,Nat.zero_add] at *
      rw [World.cell?_alloc_new,World.frozen?_alloc_new]
      exact ⟨by rw [Array.getElem?_eq_getElem hi]; rfl,rfl⟩

theorem Rep.alloc' {m : Bool} {w0 : Ini m} {ρ : List Place} {h : Heap} {w : World} (R : Rep w0 ρ h w) {cs : List LV} {vs : Array Value} (t : TypeId) (hs : cs.all LV.single = true) (hv : VRs ρ vs.toList cs) :
    Rep w0 (ρ ++ [⟨w.heap.size,0,vs.size⟩]) (h ++ [.cells true cs]) (w.alloc (.cells vs t)) :=
  R.alloc (n := vs.size) t hs (by rw [List.take_of_length_le (by simp)]; exact hv) (Nat.le_refl _)

theorem Rep.drew {m : Bool} {w0 : Ini m} {ρ : List Place} {h : Heap} {w : World} (R : Rep w0 ρ h w) : Rep w0 ρ h w.drew :=
  ⟨R.len,R.below.drew,R.lt,fun n b pl hb hp => (R.blk n b pl hb hp).keeps (Ext.refl _) (Keeps.drew _ _),R.own,R.dis⟩

/-- The cells of a block,read. -/
theorem Rep.cells {m : Bool} {w0 : Ini m} {ρ : List Place} {h : Heap} {w : World} (R : Rep w0 ρ h w) {n : Nat} {rw : Bool} {cs : List LV} {pl : Place} (hn : h[n]? = some (.cells rw cs)) (hp : ρ[n]? = some pl) (off k : Nat) (hk : off + k ≤ cs.length) :
    ∃ vs : List Value,VRs ρ vs ((cs.drop off).take k) ∧ vs.length = k ∧ ∀ (j : Nat) (v : Value),vs[j]? = some v → w.cell? ((pl.at off).add j) = some v := by
  obtain ⟨h0,h1,h2,h3⟩ := R.blk n _ pl hn hp
  have h4 : ∀ (i : Nat),i < cs.length → ∃ v,w.cell? (pl.at i) = some v ∧ ∀ (l : LV),cs[i]? = some l → VR ρ v l := by
    intro i hi
    obtain ⟨v,hv,hr⟩ := h2 i _ (List.getElem?_eq_getElem hi)
    exact ⟨v,hv,fun l hl => by rw [List.getElem?_eq_getElem hi] at hl; cases hl; exact hr⟩
  refine ⟨(List.range k).map fun j => (w.cell? (pl.at (off + j))).getD undef,⟨?_,?_⟩,by simp,?_⟩
  · simp; omega
  · intro i v l hv hl
    rw [List.getElem?_take] at hl
    split at hl
    · rename_i hi
      rw [List.getElem?_drop] at hl
      obtain ⟨u,hu,hr⟩ := h4 (off + i) (by omega)
      rw [List.getElem?_map,List.getElem?_range hi] at hv
      simp [hu] at hv
      subst hv
      exact hr l hl
    · cases hl
  · intro j v hv
    have hj : j < k := by have := lt_of_getElem? hv; simpa using this
    obtain ⟨u,hu,_⟩ := h4 (off + j) (by omega)
    rw [List.getElem?_map,List.getElem?_range hj] at hv
    simp [hu] at hv
    subst hv
    have : (pl.at off).add j = pl.at (off + j) := by
      unfold Place.at Addr.add
      split
      · rename_i e; subst e; simp
      · simp [Nat.add_assoc]
    rw [this,hu]

theorem Place.at_add (pl : Place) (i j : Nat) : (pl.at i).add j = pl.at (i + j) := by
  unfold Place.at Addr.add
  split
  · rename_i e; subst e; simp
  · simp [Nat.add_assoc]

/-- Cells of a block are written. -/
theorem Rep.write {m : Bool} {w0 : Ini m} {ρ : List Place} {h : Heap} {w : World} (R : Rep w0 ρ h w) {n : Nat} {cs : List LV} {pl : Place} (hn : h[n]? = some (.cells true cs)) (hp : ρ[n]? = some pl) (off : Nat) {ls : List LV} {vs : List Value}
    (hs : ls.all LV.single = true) (hv : VRs ρ vs ls) (hk : off + ls.length ≤ cs.length) : Rep w0 ρ (h.set n (.cells true (splice cs off ls))) (w.setCells pl.block (pl.off + off) vs) := by
  obtain ⟨h0,h1,h2,h3⟩ := R.blk n _ pl hn hp
  have hvl := hv.1
  refine R.upd hn hp (fun h => h) (fun h => h) ?_ (Bel.setCells _ (R.own n _ pl hn rfl hp) _ _ _ R.below) (by rw [setCells_size]; exact Nat.le_refl _)
    (fun m c pm hne hc hl hm => Keeps.setCells _ _ _ _ _ (R.dis n m _ c pl pm (fun e => hne e.symm) hn hc hp hm rfl hl) (by omega)) rfl
  have hin : ∀ (j : Nat) (hj : j < vs.length),(w.setCells pl.block (pl.off + off) vs).cell? (pl.at (off + j)) = some vs[j] := by
    intro j hj
    have := World.cell?_setCells_in pl.block vs (pl.off + off) w (fun j hj => by
      have := (h3 rfl (off + j) (by omega)).1
      simpa [Place.at,Nat.add_assoc] using this) j hj
    simpa [Place.at,Nat.add_assoc] using this
  have hout : ∀ (i : Nat),i < off ∨ off + vs.length ≤ i → (w.setCells pl.block (pl.off + off) vs).cell? (pl.at i) = w.cell? (pl.at i) := by
    intro i hi
    exact World.cell?_setCells_out _ _ _ _ _ (fun _ _ => by simp only [Place.at]; omega)
  refine ⟨?_,?_,?_,?_⟩
  · unfold Lg.splice
    rw [List.all_append,List.all_append,hs]
    simp only [List.all_eq_true,Bool.and_eq_true,and_true] at h0 ⊢
    exact ⟨fun x hx => h0 x (List.mem_of_mem_take hx),fun x hx => h0 x (List.mem_of_mem_drop hx)⟩
  · simp only [Lg.splice,List.length_append,List.length_take,List.length_drop]; omega
  · intro i l hl
    rcases Nat.lt_or_ge i off with hi | hi
    · rw [hout i (.inl hi)]
      refine h2 i l ?_
      unfold Lg.splice at hl
      rw [List.append_assoc,List.getElem?_append_left (by simp; omega),List.getElem?_take,if_pos hi] at hl
      exact hl
    · rcases Nat.lt_or_ge i (off + vs.length) with hj | hj
      · obtain ⟨j,rfl⟩ : ∃ j,i = off + j := ⟨i - off,by omega⟩
        refine ⟨_,hin j (by omega),?_⟩
        have hj' : j < vs.length := by omega
        refine hv.2 j _ l (List.getElem?_eq_getElem hj') ?_
        unfold Lg.splice at hl
        rw [List.append_assoc,List.getElem?_append_right (by simp; omega)] at hl
        have e : off + j - (cs.take off).length = j := by simp; omega
        rw [e,List.getElem?_append_left (by omega)] at hl
        exact hl
      · rw [hout i (.inr hj)]
        refine h2 i l ?_
        unfold Lg.splice at hl
        rw [List.append_assoc,List.getElem?_append_right (by simp; omega),List.getElem?_append_right (by simp; omega),List.getElem?_drop] at hl
        simp only [List.length_take] at hl
        rwa [show off + ls.length + (i - min off cs.length - ls.length) = i by omega] at hl
  · intro _ i hi
    obtain ⟨a,b⟩ := h3 rfl i hi
    refine ⟨?_,by rw [World.frozen?_setCells]; exact b⟩
    rcases Nat.lt_or_ge i off with hi | hi
    · rw [hout i (.inl hi)]; exact a
    · rcases Nat.lt_or_ge i (off + vs.length) with hj | hj
      · obtain ⟨j,rfl⟩ : ∃ j,i = off + j := ⟨i - off,by omega⟩
        rw [hin j (by omega)]; rfl
      · rw [hout i (.inr hj)]; exact a


theorem Dis.sub {p q r : Place} (h : Dis p q) (hb : r.block = q.block) (h1 : q.off ≤ r.off) (h2 : r.off + r.ext ≤ q.off + q.ext) : Dis p r := by
  unfold Dis at *; omega
theorem Dis.subl {p q r : Place} (h : Dis p q) (hb : r.block = p.block) (h1 : p.off ≤ r.off) (h2 : r.off + r.ext ≤ p.off + p.ext) : Dis r q := by
  unfold Dis at *; omega
theorem LBlk.live_of_rw {b : LBlk} (h : b.rw = true) : b.live = true := by cases b <;> first | rfl | cases h

/-- The last block is only read from now on; the room behind its cells stands alone. -/
theorem Rep.split {m : Bool} {w0 : Ini m} {ρ : List Place} {h : Heap} {w : World} {pl : Place} {cs : List LV} (R : Rep w0 (ρ ++ [pl]) (h ++ [.cells true cs]) w) :
    Rep w0 (ρ ++ [pl] ++ [⟨pl.block,pl.off + cs.length,pl.ext - cs.length⟩]) (h ++ [.cells false cs] ++ [.tok h.length cs.length]) w := by
  have hl : ρ.length = h.length := by have := R.len; simpa using this
  have hn : (h ++ [LBlk.cells true cs])[h.length]? = some (.cells true cs) := List.getElem?_concat_length
  have hp : (ρ ++ [pl])[h.length]? = some pl := by rw [← hl]; exact List.getElem?_concat_length
  obtain ⟨b0,b1,b2,b3⟩ := R.blk _ _ pl hn hp
  have R1 : Rep w0 (ρ ++ [pl]) ((h ++ [LBlk.cells true cs]).set h.length (LBlk.cells false cs)) w :=
    R.upd (b' := LBlk.cells false cs) hn hp (fun h => by cases h) (fun _ => rfl) ⟨b0,b1,b2,fun h => by cases h⟩ R.below (Nat.le_refl _) (fun m c pm _ _ _ _ => Keeps.refl _ _) rfl
  have e : (h ++ [LBlk.cells true cs]).set h.length (.cells false cs) = h ++ [.cells false cs] := by
    simp
  rw [e] at R1
  have get : ∀ (m : Nat) (c : LBlk),(h ++ [LBlk.cells false cs])[m]? = some c → (m = h.length ∧ c = .cells false cs) ∨ (m ≠ h.length ∧ (h ++ [LBlk.cells true cs])[m]? = some c) := by
    intro m c hc
    rcases getElem?_snoc hc with h1 | ⟨h1,h2⟩
    · exact .inr ⟨Nat.ne_of_lt (lt_of_getElem? h1),by rw [List.getElem?_append_left (lt_of_getElem? h1)]; exact h1⟩
    · exact .inl ⟨h1,h2⟩
  refine R1.push ⟨⟨pl,by rw [List.getElem?_append_left (by simp [hl])]; exact hp,b1,rfl⟩,fun i hi => ?_⟩ R.below (Nat.le_refl _) ?_ (fun _ => R.own _ _ pl hn rfl hp) (fun m c pm _ _ _ => Keeps.refl _ _) (fun _ m c pm hc hl' hm => ?_) (fun _ m c pm hc hr hm => ?_)
  · have := b3 rfl (cs.length + i) (by simp only at hi; omega)
    simpa [Place.at,Nat.add_assoc] using this
  · exact (R.lt _ pl hp).imp id fun h => by show pl.ext - cs.length = 0; omega
  · rcases get m c hc with ⟨rfl,rfl⟩ | ⟨h1,h2⟩
    · rw [hp] at hm; cases hm
      unfold Dis LBlk.span; simp only; omega
    · exact (R.dis _ m _ c pl pm (fun e => h1 e.symm) hn h2 hp hm rfl hl').subl rfl (by simp) (by simp only; omega)
  · rcases get m c hc with ⟨rfl,rfl⟩ | ⟨h1,h2⟩
    · cases hr
    · have h3 := R.dis m _ c _ pm pl h1 h2 hn hm hp hr rfl
      exact Dis.sub h3 rfl (by simp [LBlk.span]) (by simp only [LBlk.span]; omega)

/-- Cells are written behind those of a block that is only read,into the room that stands behind it: a longer block,that is only read. -/
theorem Rep.extend {m : Bool} {w0 : Ini m} {ρ : List Place} {h : Heap} {w : World} (R : Rep w0 ρ h w) {n u off : Nat} {cs ls : List LV} {vs : List Value} {pl : Place} (hn : h[n]? = some (.cells false cs)) (hp : ρ[n]? = some pl) (ht : h[n + 1]? = some (.tok n u))
    (hs : ls.all LV.single = true) (hv : VRs ρ vs ls) (ho : off ≤ u) (hu : u ≤ cs.length) (hx : u + ls.length ≤ pl.ext) :
    Rep w0 (ρ ++ [⟨pl.block,pl.off + off,pl.ext - off⟩] ++ [⟨pl.block,pl.off + off + (u - off + ls.length),pl.ext - off - (u - off + ls.length)⟩])
      (h.set (n + 1) .dead ++ [.cells false ((cs.drop off).take (u - off) ++ ls)] ++ [.tok h.length (u - off + ls.length)]) (w.setCells pl.block (pl.off + u) vs) := by
  obtain ⟨b0,b1,b2,_⟩ := R.blk n _ pl hn hp
  have hvl := hv.1
  obtain ⟨pt,hpt⟩ := R.place ht
  obtain ⟨⟨pm,hpm,hux,rfl⟩,hw⟩ := R.blk (n + 1) _ pt ht hpt
  rw [hp] at hpm; cases hpm
  have htr : (LBlk.tok n u).rw = true := rfl
  have hown := R.own (n + 1) _ _ ht htr hpt
  simp only at hown hw
  have hB : Bel w0.heap.size w0 (w.setCells pl.block (pl.off + u) vs) := Bel.setCells _ hown _ _ _ R.below
  have hin : ∀ (j : Nat) (hj : j < vs.length),(w.setCells pl.block (pl.off + u) vs).cell? (pl.at (u + j)) = some vs[j] := by
    intro j hj
    have := World.cell?_setCells_in pl.block vs (pl.off + u) w (fun j hj => by
      have := (hw j (by omega)).1
      simpa [Place.at,Nat.add_assoc] using this) j hj
    simpa [Place.at,Nat.add_assoc] using this
  have hout : ∀ (q : Nat),q < u ∨ u + vs.length ≤ q → (w.setCells pl.block (pl.off + u) vs).cell? (pl.at q) = w.cell? (pl.at q) := by
    intro q hq
    exact World.cell?_setCells_out _ _ _ _ _ (fun _ _ => by simp only [Place.at]; omega)
  have hkeep : ∀ (m : Nat) (c : LBlk) (pm : Place),m ≠ n + 1 → h[m]? = some c → c.live = true → ρ[m]? = some pm → Keeps w (w.setCells pl.block (pl.off + u) vs) (c.span pm) := by
    intro m c pm hne hc hl hm
    have := Keeps.setCells w (c.span pm) ⟨pl.block,pl.off + u,pl.ext - u⟩ 0 vs (R.dis (n + 1) m _ c _ pm (fun e => hne e.symm) ht hc hpt hm htr hl) (by simp only; omega)
    simpa using this
  have R1 : Rep w0 ρ (h.set (n + 1) .dead) (w.setCells pl.block (pl.off + u) vs) :=
    R.upd ht hpt (fun h => by cases h) (fun h => by cases h) True.intro hB (by rw [setCells_size]; exact Nat.le_refl _) hkeep rfl
  have get : ∀ (m : Nat) (c : LBlk),(h.set (n + 1) .dead)[m]? = some c → c.live = true → m ≠ n + 1 ∧ h[m]? = some c := by
    intro m c hc hl
    rw [List.getElem?_set] at hc
    split at hc
    · split at hc
      · simp at hc; subst hc; cases hl
      · cases hc
    · rename_i e; exact ⟨fun x => e x.symm,hc⟩
  have hol : ((cs.drop off).take (u - off)).length = u - off := by simp; omega
  have hat : ∀ (q : Nat),(Place.mk pl.block (pl.off + off) (pl.ext - off)).at q = pl.at (off + q) := fun q => by simp [Place.at,Nat.add_assoc]
  have hsz : ∀ x,(w.setCells pl.block x vs).heap.size = w.heap.size := fun x => setCells_size _ _ _ _
  have hlt := R.lt n pl hp
  have R2 := R1.push (b := .cells false ((cs.drop off).take (u - off) ++ ls)) (pl := ⟨pl.block,pl.off + off,pl.ext - off⟩) (w' := w.setCells pl.block (pl.off + u) vs) ⟨by
      rw [List.all_append,hs,Bool.and_true,List.all_eq_true]
      intro x hx
      exact List.all_eq_true.1 b0 x (List.mem_of_mem_drop (List.mem_of_mem_take hx)),by rw [List.length_append,hol]; show _ ≤ pl.ext - off; omega,fun q lq hq => by
      rw [hat]
      rcases Nat.lt_or_ge q (u - off) with h1 | h1
      · rw [hout (off + q) (.inl (by omega))]
        rw [List.getElem?_append_left (by omega),List.getElem?_take,if_pos h1,List.getElem?_drop] at hq
        obtain ⟨v,hv,hr⟩ := b2 _ lq hq
        exact ⟨v,hv,hr.mono (Ext.app _ _)⟩
      · rw [List.getElem?_append_right (by omega),hol] at hq
        have hq' : q - (u - off) < vs.length := by rw [hvl]; exact lt_of_getElem? hq
        have := hin (q - (u - off)) hq'
        rw [show u + (q - (u - off)) = off + q by omega] at this
        exact ⟨_,this,(hv.2 _ _ lq (List.getElem?_eq_getElem hq') hq).mono (Ext.app _ _)⟩,fun h => by cases h⟩ hB (Nat.le_refl _) (by rw [hsz]; exact hlt.imp id fun h => by show pl.ext - off = 0; omega) (fun h => by cases h)
    (fun m c pm _ _ _ => Keeps.refl _ _) (fun h => by cases h) (fun _ m c pm hc hr hm => by
      obtain ⟨h1,h2⟩ := get m c hc (LBlk.live_of_rw hr)
      have hmn : m ≠ n + 1 := h1
      have d2 := R.dis m (n + 1) c _ pm _ hmn h2 ht hm hpt hr rfl
      rw [LBlk.span_rw htr] at d2
      unfold Dis at d2 ⊢
      simp only [LBlk.span,List.length_append,hol] at d2 ⊢
      have hm2 : m ≠ n := by rintro rfl; rw [hn] at h2; cases h2; cases hr
      have d1 := R.dis m n c _ pm pl hm2 h2 hn hm hp hr rfl
      unfold Dis at d1
      simp only [LBlk.span] at d1
      omega)
  have hl2 : (h.set (n + 1) LBlk.dead).length = h.length := by simp
  refine R2.push ⟨⟨⟨pl.block,pl.off + off,pl.ext - off⟩,?_,by simp only; omega,rfl⟩,fun i hi => ?_⟩ hB (Nat.le_refl _) ?_ (fun _ => hown) (fun m c pm _ _ _ => Keeps.refl _ _) (fun _ m c pm hc hl' hm => ?_) (fun _ m c pm hc hr hm => ?_)
  · rw [List.getElem?_append_left (by simp [R.len]),← R.len]; exact List.getElem?_concat_length
  · simp only at hi
    have e : (Place.mk pl.block (pl.off + off + (u - off + ls.length)) (pl.ext - off - (u - off + ls.length))).at i = pl.at (u + ls.length + i) := by
      simp only [Place.at]; congr 1; omega
    have hh := hw (ls.length + i) (by omega)
    have e2 : (Place.mk pl.block (pl.off + u) (pl.ext - u)).at (ls.length + i) = pl.at (u + ls.length + i) := by
      simp only [Place.at]; congr 1; omega
    rw [e2] at hh
    rw [e,hout _ (.inr (by omega)),World.frozen?_setCells]
    exact hh
  · rw [hsz]; exact hlt.imp id fun h => by show pl.ext - off - (u - off + ls.length) = 0; omega
  · rcases getElem?_snoc hc with h1 | ⟨h1,rfl⟩
    · obtain ⟨h2,h3⟩ := get m c h1 hl'
      have hm' : ρ[m]? = some pm := by
        rcases getElem?_snoc hm with h4 | ⟨h4,_⟩
        · exact h4
        · exact absurd (lt_of_getElem? h3) (by rw [h4,R.len]; exact Nat.lt_irrefl _)
      have := R.dis (n + 1) m _ c _ pm (fun e => h2 e.symm) ht h3 hpt hm' htr hl'
      exact this.subl rfl (by simp only; omega) (by simp only; omega)
    · have : pm = ⟨pl.block,pl.off + off,pl.ext - off⟩ := by
        rcases getElem?_snoc hm with h4 | ⟨_,h4⟩
        · exact absurd (lt_of_getElem? h4) (by rw [h1,hl2,R.len]; exact Nat.lt_irrefl _)
        · exact h4
      subst this
      unfold Dis LBlk.span; simp only [List.length_append,hol]; omega
  · rcases getElem?_snoc hc with h1 | ⟨h1,rfl⟩
    · obtain ⟨h2,h3⟩ := get m c h1 (LBlk.live_of_rw hr)
      have hm' : ρ[m]? = some pm := by
        rcases getElem?_snoc hm with h4 | ⟨h4,_⟩
        · exact h4
        · exact absurd (lt_of_getElem? h3) (by rw [h4,R.len]; exact Nat.lt_irrefl _)
      have d := R.dis m (n + 1) c _ pm _ h2 h3 ht hm' hpt hr rfl
      rw [LBlk.span_rw htr] at d
      rw [LBlk.span_rw (b := .tok _ _) rfl]
      exact d.sub rfl (by simp only; omega) (by simp only; omega)
    · cases hr
end Lg
