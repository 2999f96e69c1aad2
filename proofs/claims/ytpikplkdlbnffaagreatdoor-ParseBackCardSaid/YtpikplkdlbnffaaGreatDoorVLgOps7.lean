import Derived.Test.YtpikplkdlbnffaaGreatDoorVLgRep
import Derived.Laws.Entries
import Derived.Laws.StructEq
import Derived.Laws.Strings
import Derived.Laws.Slices
import Derived.Laws.AppendOwn
import Derived.Laws.MakeOwn
import Derived.Laws.Tables
import Derived.Laws.BytesString
import Derived.Laws.IdiomStrings
/- Each operation of the model does what the logical one does. -/
namespace Lg
open Go Go.RowKit
set_option linter.unusedSimpArgs false
set_option linter.unusedVariables false

/-- The frame stands for the environment. -/
def ER (ρ : List Place) (a : Act) (env : Env) : Prop := VRs ρ a.tmps.toList env

theorem ER.mono {ρ ρ' : List Place} (he : Ext ρ ρ') {a : Act} {env : Env} (h : ER ρ a env) : ER ρ' a env := VRs.mono he h

theorem ER.get {ρ : List Place} {a : Act} {env : Env} (h : ER ρ a env) (t : Nat) : VR ρ (a.tmps.getD t undef) (env.getD t .undef) := by
  rcases Nat.lt_or_ge t env.length with ht | ht
  · obtain ⟨v,hv,hr⟩ := VRs.get h (List.getElem?_eq_getElem ht)
    have e1 : a.tmps[t]? = some v := by simpa using hv
    rw [Array.getD_eq_getD_getElem?,e1,List.getD_eq_getElem?_getD,List.getElem?_eq_getElem ht]
    exact hr
  · rw [List.getD_eq_getElem?_getD,List.getElem?_eq_none ht]; exact .undef _

theorem ER.put {ρ : List Place} {a : Act} {env : Env} (h : ER ρ a env) {v : Value} {l : LV} (hv : VR ρ v l) (d : Option Tmp) : ER ρ (a.put d v) (putE env d l) := by
  cases d with
  | none => exact h
  | some d =>
    show VRs ρ (a.tmps.setIfInBounds d v).toList (env.set d l)
    rw [Array.toList_setIfInBounds]
    exact VRs.set h hv d

theorem mapM_vr (ρ : List Place) (f : Value → Option LV) : ∀ (vs : List Value) (ls : List LV),(∀ v ∈ vs,∀ l,f v = some l → VR ρ v l) → vs.mapM f = some ls → VRs ρ vs ls
  | [],ls,_,h => by simp at h; subst h; exact .nil ρ
  | v :: vs,ls,hf,h => by
    rw [List.mapM_cons] at h
    simp only [Option.bind_eq_bind,Option.bind_eq_some_iff,Option.pure_def,Option.some.injEq] at h
    obtain ⟨l,hl,ls',hls,rfl⟩ := h
    exact .cons (hf v (by simp) l hl) (mapM_vr ρ f vs ls' (fun u hu => hf u (by simp [hu])) hls)

theorem ofValueN_vr (ρ : List Place) : ∀ (d : Nat) (v : Value) (l : LV),ofValueN d v = some l → VR ρ v l
  | 0,_,_,h => by simp [ofValueN] at h
  | d + 1,v,l,h => by
    unfold ofValueN at h
    split at h
    · cases h; constructor
    · cases h; constructor
    · cases h; constructor
    · cases h; constructor
    · cases h; constructor
    · cases h; constructor
    · cases h; constructor
    · cases h; constructor
    · split at h
      · rename_i hm; cases h
        exact VRs.agg (mapM_vr ρ _ _ _ (fun v _ l hl => ofValueN_vr ρ d v l hl) hm)
      · cases h
    · split at h
      · rename_i hm; cases h
        exact VRs.tup (mapM_vr ρ _ _ _ (fun v _ l hl => ofValueN_vr ρ d v l hl) hm)
      · cases h
    · cases h

theorem ofValue_vr (ρ : List Place) {v : Value} {l : LV} (h : ofValue v = some l) : VR ρ v l := ofValueN_vr ρ 3 v l h

theorem preX_vr {ρ : List Place} {a : Act} {env : Env} (h : ER ρ a env) {x : Operand} {lx : X} (hx : preX x = some lx) : VR ρ (a.eval x) (lx.ev env) := by
  cases x with
  | tmp t => simp only [preX,Option.some.injEq] at hx; subst hx; exact h.get t
  | const v =>
    simp only [preX,Option.map_eq_some_iff] at hx
    obtain ⟨l,hl,rfl⟩ := hx
    exact ofValue_vr ρ hl
  | func f => simp only [preX,Option.some.injEq] at hx; subst hx; exact .func f #[] [] rfl (fun i v l hv => by simp at hv)
  | global g => simp [preX] at hx

theorem preXs_vr' {ρ : List Place} {a : Act} {env : Env} (h : ER ρ a env) : ∀ (xs : List Operand) (ls : List X),xs.mapM preX = some ls → VRs ρ (xs.map a.eval) (ls.map (X.ev env))
  | [],ls,hx => by simp at hx; subst hx; exact .nil ρ
  | x :: xs,ls,hx => by
    rw [List.mapM_cons] at hx
    simp only [Option.bind_eq_bind,Option.bind_eq_some_iff,Option.pure_def,Option.some.injEq] at hx
    obtain ⟨l,hl,ls',hls,rfl⟩ := hx
    exact .cons (preX_vr h hl) (preXs_vr' h xs ls' hls)

theorem preXs_vr {ρ : List Place} {a : Act} {env : Env} (h : ER ρ a env) {xs : Array Operand} {ls : List X} (hx : preXs xs = some ls) : VRs ρ (xs.map a.eval).toList (ls.map (X.ev env)) := by
  have := preXs_vr' h xs.toList ls hx
  simpa using this

/-- What an operation comes to: a value that stands for the logical one,in a world that stands for the logical heap. -/
def Sim {m : Bool} (P : Program) (s : Sem Next) (w0 : Ini m) (ρ : List Place) (w : World) (l : LV) (h' : Heap) : Prop :=
  ∃ (v : Value) (w' : World) (ρ' : List Place),Ext ρ ρ' ∧ Rep w0 ρ' h' w' ∧ VR ρ' v l ∧ (s.run P w = .ok (.value v) w' ∨ (s.run P w = .ok .skip w' ∧ v = undef))

section
variable {P : Program} {m : Bool} {w0 : Ini m} {ρ : List Place} {h h' : Heap} {w : World} {a : Act} {env : Env} {cf : CallF} {lo : Nat} {l : LV}

theorem Sim.val {s : Sem Next} {v : Value} (R : Rep w0 ρ h w) (hv : VR ρ v l) (hs : s.run P w = .ok (.value v) w) : Sim P s w0 ρ w l h :=
  ⟨v,w,ρ,Ext.refl ρ,R,hv,.inl hs⟩

theorem sim_vals {s : Sem Value} {v : Value} (R : Rep w0 ρ h w) (hv : VR ρ v l) (hs : s.run P w = .ok v w) : Sim P (do pure (.value (← s))) w0 ρ w l h :=
  Sim.val R hv (by simp [hs])

theorem VR.bool_inv {v : Value} {b : Bool} (h : VR ρ v (.bool b)) : v = .bool b := by cases h; rfl
theorem VR.int_inv {v : Value} {k : IntKind} {n : Int} (h : VR ρ v (.int k n)) : v = .int k n := by cases h; rfl
theorem VR.str_inv {v : Value} {s : List UInt8} (h : VR ρ v (.str s)) : ∃ b : ByteArray,v = .string b ∧ b.data.toList = s := by cases h; exact ⟨_,rfl,rfl⟩
theorem VR.ptr_inv {v : Value} {n off : Nat} (h : VR ρ v (.ptr n off)) : ∃ pl,ρ[n]? = some pl ∧ v = .pointer (some (pl.at off)) := by cases h; exact ⟨_,‹_›,rfl⟩
theorem VR.agg_inv {v : Value} {ls : List LV} (h : VR ρ v (.agg ls)) : ∃ cs : Array Value,v = .agg cs ∧ VRs ρ cs.toList ls := by
  cases h; exact ⟨_,rfl,VRs.of_agg ‹_› ‹_›⟩
theorem VR.tup_inv {v : Value} {ls : List LV} (h : VR ρ v (.tup ls)) : ∃ cs : Array Value,v = .tuple cs ∧ VRs ρ cs.toList ls := by
  cases h; exact ⟨_,rfl,VRs.of_agg ‹_› ‹_›⟩

theorem run_ty {t : TypeId} {i : TypeInfo} (h : P.info? t = some i) (w : World) : (typeInfo t).run P w = .ok i w := by
  simp [typeInfo,h]
theorem run_size {t : TypeId} {n : Nat} (h : sizeT P t = some n) (w : World) : (Go.sizeOf t).run P w = .ok n w := by
  unfold sizeT at h
  rw [Option.map_eq_some_iff] at h
  obtain ⟨i,hi,rfl⟩ := h
  simp [Go.sizeOf,run_ty hi]
theorem run_isAgg {t : TypeId} {g : Bool} (h : isAggT P t = some g) (w : World) : (isAgg t).run P w = .ok g w := by
  unfold isAggT at h
  split at h
  · cases h; rename_i hu; simp [isAgg,run_underlying hu]
  · cases h; rename_i hu; simp [isAgg,run_underlying hu]
  · rename_i d hn1 hn2 hu; cases h
    simp only [isAgg,Sem.run_bind,run_underlying hu,Result.andThen_ok]
    rfl
  · cases h

/-! ### move,pick -/

theorem sim_move {x : Operand} {lx : X} (hx : preX x = some lx) (E : ER ρ a env) (R : Rep w0 ρ h w) {m : Bool} (hE : opE cf lo (.mv m lx) env h = some (l,h')) :
    Sim P (pure (.value (a.eval x))) w0 ρ w l h' := by
  simp only [opE,Option.some.injEq,Prod.mk.injEq] at hE
  obtain ⟨rfl,rfl⟩ := hE
  exact Sim.val R (preX_vr E hx) rfl

theorem sim_pick {c x y : Operand} {lc lx ly : X} (hc : preX c = some lc) (hx : preX x = some lx) (hy : preX y = some ly) (E : ER ρ a env) (R : Rep w0 ρ h w)
    (hE : opE cf lo (.pick lc lx ly) env h = some (l,h')) : Sim P (do pure (.value (if ← asBool (a.eval c) then a.eval x else a.eval y))) w0 ρ w l h' := by
  simp only [opE] at hE
  have h1 := preX_vr E hc
  split at hE
  · rename_i t ht
    rw [ht] at h1
    simp only [Option.some.injEq,Prod.mk.injEq] at hE
    obtain ⟨rfl,rfl⟩ := hE
    refine Sim.val (v := if t then a.eval x else a.eval y) R ?_ ?_
    · cases t
      · exact preX_vr E hy
      · exact preX_vr E hx
    · rw [h1.bool_inv]; rfl
  · cases hE

/-! ### the heap -/

theorem zeroT_vr {t : TypeId} {z : List LV} (hz : zeroT P t = some z) (ρ : List Place) : ∃ v : Value,((P.info? t).bind (·.zero)) = some v ∧ VRs ρ v.cells.toList z := by
  unfold zeroT at hz
  split at hz
  · rename_i y hy
    cases hz
    rw [Option.bind_eq_some_iff] at hy
    obtain ⟨v,hv,ho⟩ := hy
    refine ⟨v,hv,(ofValue_vr ρ ho).cells ?_⟩
    rintro rfl
    unfold ofValue ofValueN at ho
    (repeat' split at ho) <;> simp_all
  · cases hz

theorem run_zero {t : TypeId} {v : Value} (h : ((P.info? t).bind (·.zero)) = some v) (w : World) : (zeroValue t).run P w = .ok v w := by
  rw [Option.bind_eq_some_iff] at h
  obtain ⟨i,hi,hz⟩ := h
  simp [zeroValue,run_ty hi,hz]

theorem sim_alloc {e : TypeId} {z : List LV} (hz : zeroT P e = some z) (hzs : z.all LV.single = true) (E : ER ρ a env) (R : Rep w0 ρ h w)
    (hE : opE cf lo (.alloc z) env h = some (l,h')) : Sim P (do pure (.value (← Instr.alloc e true (.tuple #[])))) w0 ρ w l h' := by
  simp only [opE,Option.some.injEq,Prod.mk.injEq] at hE
  obtain ⟨rfl,rfl⟩ := hE
  obtain ⟨v,hv,hr⟩ := zeroT_vr hz ρ
  refine ⟨.pointer (some ⟨w.heap.size,0,none⟩),w.alloc (.cells v.cells e),_,Ext.app _ _,R.alloc' e hzs hr,?_,.inl ?_⟩
  · exact VR.ptr (n := h.length) (off := 0) (pl := ⟨w.heap.size,0,v.cells.size⟩) (by rw [← R.len]; simp)
  · simp [Instr.alloc,run_zero hv,newVar,newRow]

theorem sim_box {t : TypeId} {x : Operand} {lx : X} (hx : preX x = some lx) (E : ER ρ a env) (R : Rep w0 ρ h w)
    (hE : opE cf lo (.box lx) env h = some (l,h')) : Sim P (do pure (.value (← Instr.box t (a.eval x)))) w0 ρ w l h' := by
  simp only [opE] at hE
  split at hE
  · rename_i hs
    simp only [Option.some.injEq,Prod.mk.injEq] at hE
    obtain ⟨rfl,rfl⟩ := hE
    have hu : lx.ev env ≠ .undef := fun e => by rw [e] at hs; simp [LV.cells,LV.single] at hs
    have hr := (preX_vr E hx).cells hu
    refine ⟨.pointer (some ⟨w.heap.size,0,none⟩),w.alloc (.cells (a.eval x).cells t),_,Ext.app _ _,R.alloc' t hs hr,?_,.inl ?_⟩
    · exact VR.ptr (n := h.length) (off := 0) (pl := ⟨w.heap.size,0,(a.eval x).cells.size⟩) (by rw [← R.len]; simp)
    · simp [Instr.box,newVar,newRow]
  · cases hE

theorem run_loadVar_at {t : TypeId} {g : Bool} {n : Nat} (hg : isAggT P t = some g) (hn : sizeT P t = some n) {b off : Nat} {rw : Bool} {cs : List LV} {pl : Place}
    (R : Rep w0 ρ h w) (hb : h[b]? = some (.cells rw cs)) (hp : ρ[b]? = some pl) {v : LV}
    (hv : (if g then (if off + n ≤ cs.length then some (LV.agg ((cs.drop off).take n)) else none) else cs[off]?) = some v) :
    ∃ u,(loadVar t (pl.at off)).run P w = .ok u w ∧ VR ρ u v := by
  cases g with
  | true =>
    simp only [if_true] at hv
    split at hv
    · rename_i hl
      cases hv
      obtain ⟨vs,h1,h2,h3⟩ := R.cells hb hp off n hl
      refine ⟨.agg vs.toArray,?_,VRs.agg (by simpa using h1)⟩
      have := run_loadCells_list (P := P) w (pl.at off) vs h3
      rw [h2] at this
      simp [loadVar,run_isAgg hg,run_size hn,this]
    · cases hv
  | false =>
    simp only [Bool.false_eq_true,if_false] at hv
    obtain ⟨_,h1,h2,h3⟩ := R.blk b _ pl hb hp
    obtain ⟨u,hu,hr⟩ := h2 off v hv
    exact ⟨u,by simp [loadVar,run_isAgg hg,hu],hr⟩

theorem sim_load {t : TypeId} {x : Operand} {lx : X} {g : Bool} {n : Nat} (hg : isAggT P t = some g) (hn : sizeT P t = some n) (hx : preX x = some lx) (E : ER ρ a env) (R : Rep w0 ρ h w)
    {m : Bool} (hE : opE cf lo (.load m g n lx) env h = some (l,h')) : Sim P (do pure (.value (← Instr.loadAt t (a.eval x)))) w0 ρ w l h' := by
  simp only [opE] at hE
  have h1 := preX_vr E hx
  split at hE
  case h_2 => cases hE
  rename_i b off hbo
  rw [hbo] at h1
  obtain ⟨pl,hp,he⟩ := h1.ptr_inv
  split at hE
  case h_2 => cases hE
  rename_i rw cs hb
  have key : (if g then (if off + n ≤ cs.length then some (LV.agg ((cs.drop off).take n)) else none) else cs[off]?) = some l ∧ h = h' := by
    cases g
    · simp only [Bool.false_eq_true,if_false] at hE ⊢
      split at hE
      · rename_i v hv; cases hE; exact ⟨hv,rfl⟩
      · cases hE
    · simp only [if_true] at hE ⊢
      split at hE
      · cases hE; exact ⟨by rw [if_pos ‹_›],rfl⟩
      · cases hE
  obtain ⟨hv,rfl⟩ := key
  obtain ⟨u,hu,hr⟩ := run_loadVar_at hg hn R hb hp hv
  refine sim_vals R hr ?_
  simp [Instr.loadAt,he,Instr.sureAddr,hu]

theorem all_oneCell {vs : List Value} {ls : List LV} (h : VRs ρ vs ls) (hs : ls.all LV.single = true) : ∀ v ∈ vs,v.oneCell' = true := by
  intro v hv
  obtain ⟨i,hi⟩ := List.mem_iff_getElem?.1 hv
  have hl : i < ls.length := by rw [← h.1]; exact lt_of_getElem? hi
  exact (h.2 i v _ hi (List.getElem?_eq_getElem hl)).single_oneCell (List.all_eq_true.1 hs _ (List.getElem_mem hl))

theorem run_storeCells_at' {n : Nat} {cs : List LV} {pl : Place} (R : Rep w0 ρ h w) (hn : h[n]? = some (.cells true cs)) (hp : ρ[n]? = some pl) (off : Nat) {ls : List LV} {vs : List Value}
    (hv : VRs ρ vs ls) (hs : ls.all LV.single = true) (hk : off + ls.length ≤ pl.ext) : (storeCells (pl.at off) vs).run P w = .ok () (w.setCells pl.block (pl.off + off) vs) := by
  obtain ⟨_,h1,h2,h3⟩ := R.blk n _ pl hn hp
  have hvl := hv.1
  refine run_storeCells_cells pl.block (pl.off + off) vs 0 w (fun j hj => ?_) (fun j hj => ?_) (all_oneCell hv hs)
  · have := (h3 rfl (off + j) (by omega)).1; simpa [Place.at,Nat.add_assoc] using this
  · have := (h3 rfl (off + j) (by omega)).2; simpa [Place.at,Nat.add_assoc] using this

theorem sim_store {t : TypeId} {x y : Operand} {lx ly : X} {n : Nat} (hn : sizeT P t = some n) (hx : preX x = some lx) (hy : preX y = some ly) (E : ER ρ a env) (R : Rep w0 ρ h w)
    (hE : opE cf lo (.store n lx ly) env h = some (l,h')) : Sim P (do Instr.storeAt t (a.eval x) (a.eval y); pure .skip) w0 ρ w l h' := by
  simp only [opE] at hE
  have h1 := preX_vr E hx
  have h2 := preX_vr E hy
  split at hE
  case h_2 => cases hE
  rename_i b off hbo
  rw [hbo] at h1
  obtain ⟨pl,hp,he⟩ := h1.ptr_inv
  split at hE
  case h_2 => cases hE
  rename_i rw cs hb
  split at hE
  case isFalse => cases hE
  rename_i hc
  obtain ⟨hrw,hlo,hlen,hk,hs⟩ := hc
  subst hrw
  simp only [Option.some.injEq,Prod.mk.injEq] at hE
  obtain ⟨rfl,rfl⟩ := hE
  have hu : ly.ev env ≠ .undef := fun e => by rw [e] at hs; simp [LV.cells,LV.single] at hs
  have hr := h2.cells hu
  have hrun := run_storeCells_at' (P := P) R hb hp off hr hs (by have := (R.blk b _ pl hb hp).2.1; omega)
  refine ⟨undef,_,ρ,Ext.refl ρ,R.write hb hp off hs hr (by omega),VRs.tup (VRs.nil ρ),.inr ⟨?_,rfl⟩⟩
  have hsz : (a.eval y).cells.size = n := by rw [← hlen]; have := hr.1; simpa using this
  simp [Instr.storeAt,he,Instr.sureAddr,storeVar,run_size hn,hsz,hrun]

theorem sim_nilchk {x : Operand} {lx : X} (hx : preX x = some lx) (E : ER ρ a env) (R : Rep w0 ρ h w) {o : Oper} (ho : o.op = .nilCheck x)
    (hE : opE cf lo (.nilchk lx) env h = some (l,h')) : Sim P (execOp a.eval o) w0 ρ w l h' := by
  simp only [opE] at hE
  have h1 := preX_vr E hx
  simp only [execOp,ho]
  split at hE
  · rename_i b off hbo
    simp only [Option.some.injEq,Prod.mk.injEq] at hE
    obtain ⟨rfl,rfl⟩ := hE
    rw [hbo] at h1
    obtain ⟨pl,hp,he⟩ := h1.ptr_inv
    rw [he] at h1
    exact Sim.val R h1 (by rw [he]; rfl)
  · rename_i f caps hf
    simp only [Option.some.injEq,Prod.mk.injEq] at hE
    obtain ⟨rfl,rfl⟩ := hE
    rw [hf] at h1
    generalize a.eval x = v at h1
    cases h1 with
    | func f cs ls hl hh => exact Sim.val R (.func f cs caps hl hh) rfl
  · cases hE
end
end Lg
/- Operations,continued: numbers,strings,equality,addresses,slices. -/
namespace Lg
open Go Go.RowKit
set_option linter.unusedSimpArgs false
set_option linter.unusedVariables false
section
variable {P : Program} {m : Bool} {w0 : Ini m} {ρ : List Place} {h h' : Heap} {w : World} {a : Act} {env : Env} {cf : CallF} {lo : Nat} {l : LV}

theorem eqGuard_int (op : BinOp) (t : TypeId) (x y : Operand) (k k' : IntKind) (m n : Int) (w : World) : (eqGuard op t x y (.int k m) (.int k' n)).run P w = .ok () w := by
  unfold eqGuard; cases op <;> rfl
theorem eqGuard_str (op : BinOp) (t : TypeId) (x y : Operand) (m n : ByteArray) (w : World) : (eqGuard op t x y (.string m) (.string n)).run P w = .ok () w := by
  unfold eqGuard; cases op <;> rfl

theorem run_bin {op : BinOp} {t : TypeId} {x y : Operand} {v u : Value} {lx ly : LV} (hx : VR ρ v lx) (hy : VR ρ u ly) (hE : binE op lx ly = some l) (w : World) :
    ∃ r,(do eqGuard op t x y v u; Go.binOp op t v u : Sem Value).run P w = .ok r w ∧ VR ρ r l := by
  unfold binE at hE
  split at hE
  · rename_i k m k' n
    obtain rfl := hx.int_inv
    obtain rfl := hy.int_inv
    simp only [Sem.run_bind,eqGuard_int,Result.andThen_ok]
    cases op <;> simp only [] at hE <;> (repeat' split at hE) <;> first
      | (cases hE; done)
      | (cases hE
         refine ⟨_,?_,VR.int _ _⟩
         first
           | (simp_all [Go.binOp,Op.intArith,Op.intDiv,Op.shift,Op.intBits]; done)
           | (rename_i hb; simp [Go.binOp,Op.shift,Int.not_lt.2 hb]))
      | (cases hE
         refine ⟨_,?_,VR.bool _⟩
         simp_all [Go.binOp,Op.intCmp])
  · rename_i s1 s2
    obtain ⟨b1,rfl,rfl⟩ := hx.str_inv
    obtain ⟨b2,rfl,rfl⟩ := hy.str_inv
    simp only [Sem.run_bind,eqGuard_str,Result.andThen_ok]
    cases op <;> simp only [] at hE <;> (repeat' split at hE) <;> first
      | (cases hE; done)
      | (cases hE
         refine ⟨.bool _,?_,VR.bool _⟩
         simp only [Go.binOp,Op.stringOp,ByteArray.toList_eq]
         rfl)
      | (rename_i hb
         cases hE
         refine ⟨.string (b1 ++ b2),?_,?_⟩
         · simp only [Go.binOp,Op.stringOp]
           rw [if_neg]
           · rfl
           · simp only [Array.length_toList] at hb
             have e1 : b1.size = b1.data.size := rfl
             have e2 : b2.size = b2.data.size := rfl
             have : IntKind.i64.max = 9223372036854775807 := by decide
             rw [this,e1,e2]
             omega
         · have := VR.str (ρ := ρ) (b1 ++ b2)
           simpa using this)
  · cases hE

theorem sim_bin {op : BinOp} {t : TypeId} {x y : Operand} {lx ly : X} (hx : preX x = some lx) (hy : preX y = some ly) (E : ER ρ a env) (R : Rep w0 ρ h w)
    (hE : opE cf lo (.bin op lx ly) env h = some (l,h')) : Sim P (do pure (.value (← (do eqGuard op t x y (a.eval x) (a.eval y); Go.binOp op t (a.eval x) (a.eval y))))) w0 ρ w l h' := by
  simp only [opE] at hE
  split at hE
  · rename_i v hv
    simp only [Option.some.injEq,Prod.mk.injEq] at hE
    obtain ⟨rfl,rfl⟩ := hE
    obtain ⟨r,hr,hv'⟩ := run_bin (P := P) (t := t) (x := x) (y := y) (preX_vr E hx) (preX_vr E hy) hv w
    exact sim_vals R hv' hr
  · cases hE

/-! ### equality -/

theorem eqGuard_other (op : BinOp) (t : TypeId) (x y : Operand) (v u : Value) (w : World) (h1 : ∀ cs ds,¬ (v = .agg cs ∧ u = .agg ds)) (h2 : ¬ (v = .nilIface ∧ u = .nilIface)) :
    (eqGuard op t x y v u).run P w = .ok () w := by
  unfold eqGuard
  cases op <;> first | rfl | skip
  all_goals
    simp only []
    cases v <;> cases u <;> first
      | rfl
      | exact absurd ⟨rfl,rfl⟩ h2
      | exact absurd ⟨rfl,rfl⟩ (h1 _ _)

theorem eqGuard_nil (op : BinOp) (t : TypeId) (x y : Operand) (w : World) (hc : isConstB x = true ∨ isConstB y = true) : (eqGuard op t x y .nilIface .nilIface).run P w = .ok () w := by
  unfold eqGuard
  cases op <;> first | rfl | skip
  all_goals
    rcases hc with hc | hc
    · cases x <;> first | rfl | (simp [isConstB] at hc; done)
    · cases x <;> cases y <;> first | rfl | (simp [isConstB] at hc; done)

theorem eqL_append : ∀ (K J : List CK) (A C B D : List LV),A.length = K.length → C.length = K.length → eqL (K ++ J) (A ++ B) (C ++ D) = match eqL K A C with
    | some true => eqL J B D
    | r => r
  | [],J,[],[],B,D,_,_ => by simp [eqL]
  | [],_,_ :: _,_,_,_,h,_ => by simp at h
  | [],_,_,_ :: _,_,_,_,h => by simp at h
  | _ :: _,_,[],_,_,_,h,_ => by simp at h
  | _ :: _,_,_,[],_,_,_,h => by simp at h
  | q :: K,J,a :: A,c :: C,B,D,h1,h2 => by
    have ih := eqL_append K J A C B D (by simpa using h1) (by simpa using h2)
    simp only [List.cons_append]
    cases q <;> cases a <;> cases c <;> simp only [eqL] <;> (repeat' split) <;> first
      | rfl
      | exact ih
      | simp_all

theorem VRs.extract {ρ : List Place} {xs : Array Value} {lx : List LV} (h : VRs ρ xs.toList lx) (off n : Nat) : VRs ρ (xs.extract off (off + n)).toList ((lx.drop off).take n) := by
  have := (h.drop off).take n
  simpa [List.extract_eq_take_drop] using this

/-- What is said of a type by 'flatEq': its parts are taken and compared cell by cell. -/
def FlatAt (P : Program) (t : TypeId) (ks : List CK) (m : Nat) : Prop :=
  ∀ (ρ : List Place) (xs ys : Array Value) (lx ly : List LV) (off : Nat) (b : Bool) (w : World),VRs ρ xs.toList lx → VRs ρ ys.toList ly → off + ks.length ≤ lx.length → off + ks.length ≤ ly.length →
      eqL ks ((lx.drop off).take ks.length) ((ly.drop off).take ks.length) = some b →
      ∃ u v,(part t xs off).run P w = .ok u w ∧ (part t ys off).run P w = .ok v w ∧ (Op.equalIn m t u v).run P w = .ok b w

theorem flat_fields (P : Program) (d m : Nat) (ih : ∀ (t : TypeId) (ks : List CK),flatEq P d t = some ks → sizeT P t = some ks.length → FlatAt P t ks m) :
    ∀ (fs : List Field) (k0 ks : List CK),fs.foldlM (init := k0) (fun (ks : List CK) (f : Field) =>
        if f.name ≠ "_" ∧ f.offset = ks.length then
          match flatEq P d f.type,sizeT P f.type with
          | some k,some s => if k.length = s then some (ks ++ k) else none
          | _,_ => none
        else none) = some ks → ∃ k1,ks = k0 ++ k1 ∧ ∀ (ρ : List Place) (xs ys : Array Value) (lx ly : List LV) (b : Bool) (w : World),VRs ρ xs.toList lx → VRs ρ ys.toList ly →
          k0.length + k1.length ≤ lx.length → k0.length + k1.length ≤ ly.length → eqL k1 ((lx.drop k0.length).take k1.length) ((ly.drop k0.length).take k1.length) = some b → (Op.eqFields m xs ys fs).run P w = .ok b w := by
  intro fs
  induction fs with
  | nil =>
    intro k0 ks h
    simp at h
    subst h
    refine ⟨[],by simp,?_⟩
    intro ρ xs ys lx ly b w hx hy h1 h2 he
    simp [eqL] at he
    simp [Op.eqFields,he]
  | cons f fs ihf =>
    intro k0 ks h
    rw [List.foldlM_cons] at h
    simp only [Option.bind_eq_bind,Option.bind_eq_some_iff] at h
    obtain ⟨k2,h2,h3⟩ := h
    split at h2
    case isFalse => cases h2
    rename_i hc
    obtain ⟨hname,hoff⟩ := hc
    split at h2
    case h_2 => cases h2
    rename_i k s hk hs
    split at h2
    case isFalse => cases h2
    rename_i hks
    cases h2
    subst hks
    obtain ⟨k1,rfl,hrest⟩ := ihf _ _ h3
    refine ⟨k ++ k1,by simp,?_⟩
    intro ρ xs ys lx ly b w hx hy hl1 hl2 he
    simp only [List.length_append] at hl1 hl2 he hrest
    have cut : ∀ (z : List LV),k0.length + (k.length + k1.length) ≤ z.length → (z.drop k0.length).take (k.length + k1.length) = (z.drop k0.length).take k.length ++ (z.drop (k0.length + k.length)).take k1.length := by
      intro z hz
      rw [List.take_add,List.drop_drop]
    rw [cut lx hl1,cut ly hl2,eqL_append k k1 _ _ _ _ (by simp; omega) (by simp; omega)] at he
    have one := ih f.type k hk hs
    cases hb : eqL k ((lx.drop k0.length).take k.length) ((ly.drop k0.length).take k.length) with
    | none => rw [hb] at he; simp at he
    | some b0 =>
      rw [hb] at he
      obtain ⟨u,v,hu,hv,hr⟩ := one ρ xs ys lx ly k0.length b0 w hx hy (by omega) (by omega) hb
      have hname' : (f.name ≠ "_") := hname
      cases b0 with
      | false =>
        cases he
        simp [Op.eqFields,hname',hoff,hu,hv,hr]
      | true =>
        have := hrest ρ xs ys lx ly b w hx hy (by omega) (by omega) he
        simp [Op.eqFields,hname',hoff,hu,hv,hr,this]

/-- The cells from a place on,compared one by one. -/
theorem flat_eq (P : Program) : ∀ (d : Nat) (t : TypeId) (ks : List CK),flatEq P d t = some ks → sizeT P t = some ks.length → ∀ (m : Nat),d ≤ m → FlatAt P t ks m := by
  intro d
  induction d with
  | zero => intro t n h; simp [flatEq] at h
  | succ d ih =>
    intro t ks hf hsz m hm ρ xs ys lx ly off b w hx hy hlx hly he
    obtain ⟨m,rfl⟩ : ∃ k,m = k + 1 := ⟨m - 1,by omega⟩
    -- one cell
    have one : ks.length = 1 → isAggT P t = some false → ∃ u v lu lv,(part t xs off).run P w = .ok u w ∧ (part t ys off).run P w = .ok v w ∧ VR ρ u lu ∧ VR ρ v lv ∧ eqL ks [lu] [lv] = some b := by
      intro hn hg
      rw [hn] at hlx hly he
      have h1 : off < lx.length := by omega
      have h2 : off < ly.length := by omega
      obtain ⟨u,hu,ru⟩ := hx.get (List.getElem?_eq_getElem h1)
      obtain ⟨v,hv,rv⟩ := hy.get (List.getElem?_eq_getElem h2)
      have hu' : xs[off]? = some u := by simpa using hu
      have hv' : ys[off]? = some v := by simpa using hv
      refine ⟨u,v,lx[off],ly[off],?_,?_,ru,rv,?_⟩
      · simp [part,run_isAgg hg,hu']
      · simp [part,run_isAgg hg,hv']
      · rw [List.drop_eq_getElem_cons h1,List.drop_eq_getElem_cons h2] at he
        exact he
    unfold flatEq at hf
    split at hf
    · rename_i hu
      cases hf
      obtain ⟨u,v,lu,lv,hu1,hv1,ru,rv,hq⟩ := one rfl (by unfold isAggT; rw [hu])
      refine ⟨u,v,hu1,hv1,?_⟩
      cases lu <;> cases lv <;> simp only [eqL] at hq <;> first | (cases hq; done) | skip
      obtain rfl := ru.bool_inv; obtain rfl := rv.bool_inv
      simp only [Op.equalIn,Sem.run_bind,run_underlying hu,Result.andThen_ok,Sem.run_pure]
      split at hq <;> simp_all
    · rename_i hu
      cases hf
      obtain ⟨u,v,lu,lv,hu1,hv1,ru,rv,hq⟩ := one rfl (by unfold isAggT; rw [hu])
      refine ⟨u,v,hu1,hv1,?_⟩
      cases lu <;> cases lv <;> simp only [eqL] at hq <;> first | (cases hq; done) | skip
      obtain rfl := ru.int_inv; obtain rfl := rv.int_inv
      split at hq
      · rename_i hk
        subst hk
        simp only [Op.equalIn,Sem.run_bind,run_underlying hu,Result.andThen_ok,if_true,Sem.run_pure]
        split at hq <;> simp_all
      · cases hq
    · rename_i hu
      cases hf
      obtain ⟨u,v,lu,lv,hu1,hv1,ru,rv,hq⟩ := one rfl (by unfold isAggT; rw [hu])
      refine ⟨u,v,hu1,hv1,?_⟩
      cases lu <;> cases lv <;> simp only [eqL] at hq <;> first | (cases hq; done) | skip
      obtain ⟨s,rfl,rfl⟩ := ru.str_inv; obtain ⟨s',rfl,rfl⟩ := rv.str_inv
      simp only [Op.equalIn,Sem.run_bind,run_underlying hu,Result.andThen_ok,Sem.run_pure,beq_toListBytes,ByteArray.toList_eq]
      split at hq <;> simp_all
    · rename_i fs hu
      split at hf
      · cases hf
      rename_i hst
      have hst' : P.stoodInHeld t = false := by simpa using hst
      have hfo : P.fieldsOf t = fs := by unfold Program.fieldsOf; rw [hu]
      obtain ⟨k1,e1,hk⟩ := flat_fields P d m (fun t ks h1 h2 => ih t ks h1 h2 m (by omega)) fs.toList [] ks hf
      simp only [List.nil_append] at e1
      subst e1
      have hg : isAggT P t = some true := by unfold isAggT; rw [hu]
      refine ⟨.agg (xs.extract off (off + ks.length)),.agg (ys.extract off (off + ks.length)),?_,?_,?_⟩
      · simp [part,run_isAgg hg,run_size hsz]
      · simp [part,run_isAgg hg,run_size hsz]
      · rw [run_equalIn_struct w m t _ _ (by rw [hfo]; exact hu) hst',hfo]
        refine hk ρ _ _ _ _ b w (hx.extract off ks.length) (hy.extract off ks.length) (by simp; omega) (by simp; omega) ?_
        simpa [List.take_take] using he
    · cases hf

theorem run_eqv {op : BinOp} (hop : op = .eql ∨ op = .neq) {t : TypeId} {x y : Operand} {v u : Value} {lx ly : LV} {k : EK} {b : Bool} (hx : VR ρ v lx) (hy : VR ρ u ly) (hk : preEK P t x y = some k) (hE : eqE k lx ly = some b) (w : World) :
    (do eqGuard op t x y v u; Go.binOp op t v u : Sem Value).run P w = .ok (.bool (if op == .neq then !b else b)) w := by
  have two : ∀ (r : Bool),(Go.binOp .eql t v u = (do pure (.bool (← Op.equal t v u)))) → (Go.binOp .neq t v u = (do pure (.bool (!(← Op.equal t v u))))) → (eqGuard op t x y v u).run P w = .ok () w → (Op.equal t v u).run P w = .ok r w →
      (do eqGuard op t x y v u; Go.binOp op t v u : Sem Value).run P w = .ok (.bool (if op == .neq then !r else r)) w := by
    intro r h1 h2 hg he
    simp only [Sem.run_bind,hg,Result.andThen_ok]
    rcases hop with rfl | rfl
    · rw [h1]; simp [he]
    · rw [h2]; simp [he]
  have nag : ∀ (v u : Value),(∀ cs,v ≠ .agg cs) → ¬ (v = .nilIface ∧ u = .nilIface) → (eqGuard op t x y v u).run P w = .ok () w := fun v u h1 h2 =>
    eqGuard_other op t x y v u w (fun cs ds e => h1 cs e.1) h2
  unfold preEK at hk
  split at hk
  · -- a struct
    rename_i fs hu
    split at hk
    case h_2 => cases hk
    rename_i ks s hks hs
    split at hk
    case isFalse => cases hk
    rename_i hc
    obtain ⟨rfl,hg⟩ := hc
    cases hk
    cases lx <;> cases ly <;> simp only [eqE] at hE <;> first | (cases hE; done) | skip
    rename_i la lb
    split at hE
    case isFalse => cases hE
    rename_i hl
    obtain ⟨xs,rfl,rx⟩ := hx.agg_inv
    obtain ⟨ys,rfl,ry⟩ := hy.agg_inv
    have h1 : xs.size = ks.length := by rw [← hl.1]; have := rx.1; simpa using this
    have h2 : ys.size = ks.length := by rw [← hl.2]; have := ry.1; simpa using this
    obtain ⟨u,v,hu1,hv1,hr⟩ := flat_eq P 6 t ks hks hs 10000 (by omega) ρ xs ys la lb 0 b w rx ry (by omega) (by omega) (by
      simp only [List.drop_zero]
      rw [List.take_of_length_le (by omega),List.take_of_length_le (by omega)]; exact hE)
    have hg2 : isAggT P t = some true := by unfold isAggT; rw [hu]
    simp only [part,Sem.run_bind,run_isAgg hg2,run_size hs,Result.andThen_ok,if_true,Sem.run_pure,Result.ok.injEq,and_true,Nat.zero_add] at hu1 hv1
    rw [← h1] at hu1; rw [← h2] at hv1
    simp only [Array.extract_size] at hu1 hv1
    subst hu1; subst hv1
    refine two b rfl rfl (run_eqGuard_agg w op t x y xs ys hg) ?_
    exact hr
  all_goals
    first
      | (cases hk; done)
      | skip
  · rename_i hu
    cases hk
    cases lx <;> cases ly <;> simp only [eqE] at hE <;> first | (cases hE; done) | skip
    obtain rfl := hx.bool_inv; obtain rfl := hy.bool_inv
    cases hE
    exact two _ rfl rfl (nag _ _ (fun _ e => by cases e) (fun e => by cases e.1)) (by show (Op.equalIn (9999 + 1) t _ _).run P w = _; rw [Op.equalIn]; simp only [Sem.run_bind,run_underlying hu,Result.andThen_ok,Sem.run_pure]; try rfl)
  · rename_i hu
    cases hk
    cases lx <;> cases ly <;> simp only [eqE] at hE <;> first | (cases hE; done) | skip
    all_goals
      cases hx <;> cases hy <;> cases hE <;>
      exact two _ rfl rfl (nag _ _ (fun _ e => by cases e) (fun e => by cases e.1)) (by show (Op.equalIn (9999 + 1) t _ _).run P w = _; rw [Op.equalIn]; simp only [Sem.run_bind,run_underlying hu,Result.andThen_ok,Sem.run_pure]; try rfl)
  · rename_i hu
    cases hk
    cases lx <;> cases ly <;> simp only [eqE] at hE <;> first | (cases hE; done) | skip
    all_goals
      cases hx <;> cases hy <;> cases hE <;>
      exact two _ rfl rfl (nag _ _ (fun _ e => by cases e) (fun e => by cases e.1)) (by show (Op.equalIn (9999 + 1) t _ _).run P w = _; rw [Op.equalIn]; simp only [Sem.run_bind,run_underlying hu,Result.andThen_ok,Sem.run_pure]; try rfl)
  · rename_i hu
    cases hk
    cases lx <;> cases ly <;> simp only [eqE] at hE <;> first | (cases hE; done) | skip
    all_goals
      cases hx <;> cases hy <;> cases hE <;>
      exact two _ rfl rfl (nag _ _ (fun _ e => by cases e) (fun e => by cases e.1)) (by show (Op.equalIn (9999 + 1) t _ _).run P w = _; rw [Op.equalIn]; simp only [Sem.run_bind,run_underlying hu,Result.andThen_ok,Sem.run_pure]; try rfl)
  · rename_i hu
    cases hk
    cases lx <;> cases ly <;> simp only [eqE] at hE <;> first | (cases hE; done) | skip
    all_goals
      cases hx <;> cases hy <;> cases hE <;>
      exact two _ rfl rfl (nag _ _ (fun _ e => by cases e) (fun e => by cases e.1)) (by show (Op.equalIn (9999 + 1) t _ _).run P w = _; rw [Op.equalIn]; simp only [Sem.run_bind,run_underlying hu,Result.andThen_ok,Sem.run_pure]; try rfl)
  · rename_i hu
    split at hk
    case isFalse => cases hk
    rename_i hc
    cases hk
    cases lx <;> cases ly <;> simp only [eqE] at hE <;> first | (cases hE; done) | skip
    · cases hx <;> cases hy <;> cases hE
      exact two _ rfl rfl (nag _ _ (fun _ e => by cases e) (fun e => by cases e.1)) (by show (Op.equalIn (9999 + 1) t _ _).run P w = _; rw [Op.equalIn]; simp only [Sem.run_bind,run_underlying hu,Result.andThen_ok,Sem.run_pure]; try rfl)
    · cases hx <;> cases hy <;> cases hE
      exact two _ rfl rfl (nag _ _ (fun _ e => by cases e) (fun e => by cases e.2)) (by show (Op.equalIn (9999 + 1) t _ _).run P w = _; rw [Op.equalIn]; simp only [Sem.run_bind,run_underlying hu,Result.andThen_ok,Sem.run_pure]; try rfl)
    · cases hx <;> cases hy <;> cases hE
      exact two _ rfl rfl (eqGuard_nil op t x y w hc) (by show (Op.equalIn (9999 + 1) t _ _).run P w = _; rw [Op.equalIn]; simp only [Sem.run_bind,run_underlying hu,Result.andThen_ok,Sem.run_pure]; try rfl)

theorem sim_eqv {op : BinOp} (hop : op = .eql ∨ op = .neq) {t : TypeId} {x y : Operand} {lx ly : X} {k : EK} (hk : preEK P t x y = some k) (hx : preX x = some lx) (hy : preX y = some ly) (E : ER ρ a env) (R : Rep w0 ρ h w)
    (hE : opE cf lo (.eqv (op == .neq) k lx ly) env h = some (l,h')) : Sim P (do pure (.value (← (do eqGuard op t x y (a.eval x) (a.eval y); Go.binOp op t (a.eval x) (a.eval y))))) w0 ρ w l h' := by
  simp only [opE] at hE
  split at hE
  · rename_i b hb
    simp only [Option.some.injEq,Prod.mk.injEq] at hE
    obtain ⟨rfl,rfl⟩ := hE
    exact sim_vals R (VR.bool _) (run_eqv hop (preX_vr E hx) (preX_vr E hy) hk hb w)
  · cases hE

end
end Lg
/- Operations,continued: conversions,slices,fields,elements,lengths. -/
namespace Lg
open Go Go.RowKit
set_option linter.unusedSimpArgs false
set_option linter.unusedVariables false
section
variable {P : Program} {m : Bool} {w0 : Ini m} {ρ : List Place} {h h' : Heap} {w : World} {a : Act} {env : Env} {cf : CallF} {lo : Nat} {l : LV}

theorem sim_un {op : UnOp} {x : Operand} {lx : X} (hx : preX x = some lx) (E : ER ρ a env) (R : Rep w0 ρ h w)
    (hE : opE cf lo (.un op lx) env h = some (l,h')) : Sim P (do pure (.value (← Op.unary op (a.eval x)))) w0 ρ w l h' := by
  simp only [opE] at hE
  have h1 := preX_vr E hx
  split at hE
  case h_2 => cases hE
  rename_i v hv
  simp only [Option.some.injEq,Prod.mk.injEq] at hE
  obtain ⟨rfl,rfl⟩ := hE
  generalize lx.ev env = lv at *
  cases lv <;> simp only [unE] at hv <;> first | (cases hv; done) | skip
  · cases op <;> simp only [] at hv <;> first | (cases hv; done) | skip
    cases hv
    rw [h1.bool_inv]
    exact sim_vals R (.bool _) rfl
  · cases op <;> simp only [] at hv <;> first | (cases hv; done) | skip
    · cases hv
      rw [h1.int_inv]
      exact sim_vals R (.int _ _) rfl
    · cases hv
      rw [h1.int_inv]
      exact sim_vals R (.int _ _) rfl

theorem sim_conv {s d : TypeId} {k0 k : IntKind} {x : Operand} {lx : X} (hs : P.underlying s = some (.int k0)) (hd : P.underlying d = some (.int k)) (hx : preX x = some lx) (E : ER ρ a env) (R : Rep w0 ρ h w)
    (hE : opE cf lo (.conv k lx) env h = some (l,h')) : Sim P (do pure (.value (← convert s d (a.eval x)))) w0 ρ w l h' := by
  simp only [opE] at hE
  have h1 := preX_vr E hx
  split at hE
  case h_2 => cases hE
  rename_i k1 n hn
  simp only [Option.some.injEq,Prod.mk.injEq] at hE
  obtain ⟨rfl,rfl⟩ := hE
  rw [hn] at h1
  rw [h1.int_inv]
  exact sim_vals R (.int _ _) (by simp [convert,run_underlying hs,run_underlying hd,Conv.intToInt])

theorem sim_convs {s d : TypeId} {x : Operand} {lx : X} (hs : P.underlying s = some .string) (hd : P.underlying d = some .string) (hx : preX x = some lx) (E : ER ρ a env) (R : Rep w0 ρ h w)
    (hE : opE cf lo (.mvs lx) env h = some (l,h')) : Sim P (do pure (.value (← convert s d (a.eval x)))) w0 ρ w l h' := by
  simp only [opE] at hE
  have h1 := preX_vr E hx
  split at hE
  case h_2 => cases hE
  rename_i n hn
  simp only [Option.some.injEq,Prod.mk.injEq] at hE
  obtain ⟨rfl,rfl⟩ := hE
  rw [hn] at h1
  obtain ⟨b,hb,rfl⟩ := h1.str_inv
  rw [hb]
  exact sim_vals R (.str b) (by simp [convert,run_underlying hs,run_underlying hd])

/-! ### bounds -/

theorem asNat_inv {v : Value} {lv : LV} {n : Nat} (hv : VR ρ v lv) (hn : asNat lv = some n) : ∃ k,v = .int k (n : Int) := by
  unfold asNat at hn
  split at hn
  · rename_i k i
    split at hn
    · cases hn
      exact ⟨k,by rw [hv.int_inv,Int.toNat_of_nonneg ‹_›]⟩
    · cases hn
  · cases hn

theorem preO_inv {x : Option Operand} {lx : Option X} (hx : preO x = some lx) : (x = none ∧ lx = none) ∨ ∃ y ly,x = some y ∧ lx = some ly ∧ preX y = some ly := by
  cases x with
  | none => simp [preO] at hx; exact .inl ⟨rfl,hx.symm⟩
  | some y =>
    simp only [preO,Option.map_eq_some_iff] at hx
    obtain ⟨ly,h1,h2⟩ := hx
    exact .inr ⟨y,ly,rfl,h2.symm,h1⟩

theorem bnds_inv {len l e : Nat} {lo hi : Option X} (hb : bnds env len lo hi = some (l,e)) : (lo = none ∧ l = 0 ∨ ∃ x,lo = some x ∧ asNat (x.ev env) = some l) ∧ (hi = none ∧ e = len ∨ ∃ x,hi = some x ∧ asNat (x.ev env) = some e) ∧ l ≤ e ∧ e ≤ len := by
  unfold bnds at hb
  simp only [] at hb
  split at hb
  · rename_i l0 e0 h1 h2
    split at hb
    · rename_i hc
      cases hb
      refine ⟨?_,?_,hc.1,hc.2⟩
      · cases lo with
        | none => simp at h1; exact .inl ⟨rfl,h1.symm⟩
        | some x => exact .inr ⟨x,rfl,h1⟩
      · cases hi with
        | none => simp at h2; exact .inl ⟨rfl,h2.symm⟩
        | some x => exact .inr ⟨x,rfl,h2⟩
    · cases hb
  · cases hb

theorem run_bounds {isS : Bool} {len cap l e : Nat} {lo hi : Option Operand} {llo lhi : Option X} (hlo : preO lo = some llo) (hhi : preO hi = some lhi) (E : ER ρ a env) (hb : bnds env len llo lhi = some (l,e)) (hc : len ≤ cap) (w : World) :
    (Instr.sliceBounds isS len cap (lo.map a.eval) (hi.map a.eval) none).run P w = .ok (l,e,cap) w := by
  obtain ⟨h1,h2,h3,h4⟩ := bnds_inv hb
  have hi' : ∀ (x : Operand) (lx : X) (n b : Nat) (code : BoundsCode),preX x = some lx → asNat (lx.ev env) = some n → n ≤ b → (Instr.sliceBound (a.eval x) b code).run P w = .ok n w := by
    intro x lx n b code hx hn hle
    obtain ⟨k,hk⟩ := asNat_inv (preX_vr E hx) hn
    rw [hk,run_sliceBound w k n b code (by omega) (by omega)]
    simp
  rcases preO_inv hlo with ⟨rfl,rfl⟩ | ⟨y,ly,rfl,rfl,hy⟩ <;> rcases preO_inv hhi with ⟨rfl,rfl⟩ | ⟨z,lz,rfl,rfl,hz⟩
  · simp at h1 h2
    subst h1; subst h2
    simp [Instr.sliceBounds]
  · simp at h1 h2
    subst h1
    have := fun code => hi' z lz e cap code hz h2 (by omega)
    cases isS <;> simp [Instr.sliceBounds,this]
  · simp at h1 h2
    subst h2
    have := fun code => hi' y ly l e code hy h1 (by omega)
    cases isS <;> simp [Instr.sliceBounds,this]
  · simp at h1 h2
    have e1 := fun code => hi' z lz e cap code hz h2 (by omega)
    have e2 := fun code => hi' y ly l e code hy h1 (by omega)
    cases isS <;> simp [Instr.sliceBounds,e1,e2]

theorem run_bounds_max {isS : Bool} {len cap l e m : Nat} {lo hi : Option Operand} {mx : Operand} {llo lhi : Option X} {lmx : X} (hlo : preO lo = some llo) (hhi : preO hi = some lhi) (hhs : lhi.isSome = true) (hmx : preX mx = some lmx) (E : ER ρ a env)
    (hb : bnds env len llo lhi = some (l,e)) (hm : asNat (lmx.ev env) = some m) (hc : m ≤ cap) (he : e ≤ m) (w : World) :
    (Instr.sliceBounds isS len cap (lo.map a.eval) (hi.map a.eval) (some (a.eval mx))).run P w = .ok (l,e,m) w := by
  obtain ⟨h1,h2,h3,h4⟩ := bnds_inv hb
  have hi' : ∀ (x : Operand) (lx : X) (n b : Nat) (code : BoundsCode),preX x = some lx → asNat (lx.ev env) = some n → n ≤ b → (Instr.sliceBound (a.eval x) b code).run P w = .ok n w := by
    intro x lx n b code hx hn hle
    obtain ⟨k,hk⟩ := asNat_inv (preX_vr E hx) hn
    rw [hk,run_sliceBound w k n b code (by omega) (by omega)]
    simp
  have e0 := fun code => hi' mx lmx m cap code hmx hm hc
  rcases preO_inv hlo with ⟨rfl,rfl⟩ | ⟨y,ly,rfl,rfl,hy⟩ <;> rcases preO_inv hhi with ⟨rfl,rfl⟩ | ⟨z,lz,rfl,rfl,hz⟩
  · simp at hhs
  · simp at h1 h2
    subst h1
    have e1 := fun code => hi' z lz e m code hz h2 he
    cases isS <;> simp [Instr.sliceBounds,e0,e1]
  · simp at hhs
  · simp at h1 h2
    have e1 := fun code => hi' z lz e m code hz h2 he
    have e2 := fun code => hi' y ly l e code hy h1 (by omega)
    cases isS <;> simp [Instr.sliceBounds,e0,e1,e2]

theorem vr_resliced {n off len cap es l e m : Nat} {full full' : Bool} {pl : Place} (hp : ρ[n]? = some pl) (hx : off + cap * es ≤ pl.ext) (hl : l ≤ e) (he : e ≤ m) (hm : m ≤ cap) (hf : full' = true → m = e) :
    VR ρ (.slice (if m = l then some (pl.at off) else (some (pl.at off)).map (·.add (l * es))) (e - l) (m - l)) (.slice n (off + l * es) (e - l) es full') := by
  by_cases hml : m = l
  · rw [if_pos hml]
    have h1 : e - l = 0 := by omega
    have h2 : m - l = 0 := by omega
    rw [h1,h2]
    exact .slice0 _ _ _ _ hp
  · rw [if_neg hml]
    simp only [Option.map_some,Place.at_add]
    refine .slice hp (by omega) ?_ (fun h => by have := hf h; omega)
    have : l * es + (m - l) * es = m * es := by rw [← Nat.add_mul]; congr 1; omega
    have : m * es ≤ cap * es := Nat.mul_le_mul_right _ hm
    omega

theorem sim_slc_str {t : TypeId} {x : Operand} {lx : X} {lo' hi : Option Operand} {llo lhi : Option X} (ht : P.underlying t = some .string) (hx : preX x = some lx) (hlo : preO lo' = some llo) (hhi : preO hi = some lhi) (E : ER ρ a env) (R : Rep w0 ρ h w)
    (hE : opE cf lo (.slc 0 lx llo lhi none) env h = some (l,h')) : Sim P (do pure (.value (← Instr.sliceAt t (a.eval x) (lo'.map a.eval) (hi.map a.eval) none))) w0 ρ w l h' := by
  simp only [opE] at hE
  have h1 := preX_vr E hx
  split at hE
  · rename_i s hs
    rw [hs] at h1
    split at hE
    case isFalse => cases hE
    split at hE
    case h_2 => cases hE
    rename_i l0 e0 hb
    simp only [Option.some.injEq,Prod.mk.injEq] at hE
    obtain ⟨rfl,rfl⟩ := hE
    obtain ⟨b,hbv,rfl⟩ := h1.str_inv
    have hsz : b.data.toList.length = b.size := by simp
    obtain ⟨_,_,hle,hlen⟩ := bnds_inv hb
    rw [hsz] at hb hlen
    refine sim_vals (v := .string (b.extract l0 e0)) R ?_ ?_
    · have := VR.str (ρ := ρ) (b.extract l0 e0)
      have e1 : (b.extract l0 e0).data.toList = List.drop l0 (List.take e0 b.data.toList) := by
        simp [ByteArray.data_extract,List.extract_eq_take_drop,List.drop_take]
      rwa [e1] at this
    · rw [hbv]
      simp [Instr.sliceAt,run_underlying ht,Instr.slice,run_bounds (P := P) hlo hhi E hb (Nat.le_refl _)]
  · simp at hE
  · split at hE
    · rename_i hc; exact absurd rfl hc.2
    · cases hE
  · cases hE

theorem sim_slc {t e : TypeId} {x : Operand} {lx : X} {lo' hi mx : Option Operand} {llo lhi lmx : Option X} {es : Nat} (ht : P.underlying t = some (.slice e)) (hes : sizeT P e = some es) (h0 : es ≠ 0) (hmh : lmx.isNone = true ∨ lhi.isSome = true)
    (hx : preX x = some lx) (hlo : preO lo' = some llo) (hhi : preO hi = some lhi) (hmx : preO mx = some lmx) (E : ER ρ a env) (R : Rep w0 ρ h w)
    (hE : opE cf lo (.slc es lx llo lhi lmx) env h = some (l,h')) : Sim P (do pure (.value (← Instr.sliceAt t (a.eval x) (lo'.map a.eval) (hi.map a.eval) (mx.map a.eval)))) w0 ρ w l h' := by
  have hel : P.elem t = e := by unfold Program.elem; rw [ht]
  have hat : ∀ v lo hi mx,(Instr.sliceAt t v lo hi mx).run P w = (Instr.slice t v lo hi mx).run P w := fun v lo hi mx => by
    simp [Instr.sliceAt,run_underlying ht]
  simp only [opE] at hE
  have h1 := preX_vr E hx
  split at hE
  · rename_i s hs
    split at hE
    case isFalse => cases hE
    rename_i hc; exact absurd hc.1 h0
  · -- nil
    rename_i hs
    rw [hs] at h1
    rw [if_neg h0] at hE
    split at hE
    case h_2 => cases hE
    rename_i le hb
    obtain ⟨l0,e0⟩ := le
    have hv : a.eval x = .slice none 0 0 := by generalize a.eval x = v at h1; cases h1; rfl
    obtain ⟨_,_,hle,hlen⟩ := bnds_inv hb
    have hl0 : l0 = 0 := by omega
    have he0 : e0 = 0 := by omega
    subst hl0; subst he0
    rcases preO_inv hmx with ⟨rfl,rfl⟩ | ⟨y,ly,rfl,rfl,hy⟩
    · simp only [Option.some.injEq,Prod.mk.injEq] at hE
      obtain ⟨rfl,rfl⟩ := hE
      refine sim_vals (v := .slice none 0 0) R .nilslice ?_
      rw [hat,hv]
      simp only [Instr.slice,Sem.run_bind,run_underlying ht,Result.andThen_ok,Option.map_none,run_bounds (P := P) hlo hhi E hb (Nat.le_refl _),run_size hes,Sem.run_pure]
      rfl
    · simp only [] at hE
      split at hE
      case isFalse => cases hE
      rename_i hm
      simp only [Option.some.injEq,Prod.mk.injEq] at hE
      obtain ⟨rfl,rfl⟩ := hE
      refine sim_vals (v := .slice none 0 0) R .nilslice ?_
      rw [hat,hv]
      have hhs : lhi.isSome = true := by rcases hmh with h | h; · simp at h
                                         · exact h
      simp only [Instr.slice,Sem.run_bind,run_underlying ht,Result.andThen_ok,Option.map_some,run_bounds_max (P := P) hlo hhi hhs hy E hb hm (Nat.le_refl _) (Nat.le_refl _),run_size hes,Sem.run_pure]
      rfl
  · rename_i n off len es' full hs
    rw [hs] at h1
    split at hE
    case isFalse =>
      split at hE
      case isFalse => cases hE
      rename_i hc
      obtain ⟨_,rfl⟩ := hc
      split at hE
      case h_2 => cases hE
      rename_i le hb
      obtain ⟨l0,e0⟩ := le
      obtain ⟨_,_,hle,hlen⟩ := bnds_inv hb
      have hl0 : l0 = 0 := by omega
      have he0 : e0 = 0 := by omega
      subst hl0; subst he0
      have inv : ∃ ad cap,a.eval x = .slice (some ad) 0 cap ∧ (∃ pl,ρ[n]? = some pl) ∧ VR ρ (.slice (if cap = 0 then some ad else some (ad.add 0)) 0 cap) (.slice n off 0 es' full) := by
        generalize hv : a.eval x = v at h1
        cases h1 with
        | slice hp hc hx hf =>
          refine ⟨_,_,rfl,⟨_,hp⟩,?_⟩
          rw [Place.at_add]
          simp only [Nat.add_zero,ite_self]
          exact .slice hp hc hx hf
        | slice0 ad _ _ _ hp => exact ⟨ad,0,rfl,⟨_,hp⟩,.slice0 _ _ _ _ hp⟩
      obtain ⟨ad,cap,hv,⟨pl,hp⟩,hr⟩ := inv
      rcases preO_inv hmx with ⟨rfl,rfl⟩ | ⟨y,ly,rfl,rfl,hy⟩
      · simp only [Option.some.injEq,Prod.mk.injEq] at hE
        obtain ⟨rfl,rfl⟩ := hE
        refine sim_vals R hr ?_
        rw [hat,hv]
        simp [Instr.slice,run_underlying ht,run_bounds (P := P) hlo hhi E hb (Nat.zero_le cap),run_size hes]
      · simp only [] at hE
        split at hE
        case isFalse => cases hE
        rename_i hm
        simp only [Option.some.injEq,Prod.mk.injEq] at hE
        obtain ⟨rfl,rfl⟩ := hE
        have hhs : lhi.isSome = true := by rcases hmh with h | h; · simp at h
                                           · exact h
        refine sim_vals R (.slice0 ad off es' true hp) ?_
        rw [hat,hv]
        simp [Instr.slice,run_underlying ht,run_bounds_max (P := P) (cap := cap) (m := 0) hlo hhi hhs hy E hb hm (Nat.zero_le _) (Nat.le_refl _),run_size hes]
    rename_i hc
    obtain ⟨rfl,_⟩ := hc
    split at hE
    case h_2 => cases hE
    rename_i l0 e0 hb
    obtain ⟨_,_,hle,hlen⟩ := bnds_inv hb
    have inv : ∃ ad cap,a.eval x = .slice (some ad) len cap ∧ len ≤ cap ∧ (full = true → cap = len) ∧ ∀ (m : Nat) (f' : Bool),e0 ≤ m → m ≤ cap → (f' = true → m = e0) →
        VR ρ (.slice (if m = l0 then some ad else (some ad).map (·.add (l0 * es'))) (e0 - l0) (m - l0)) (.slice n (off + l0 * es') (e0 - l0) es' f') := by
      generalize a.eval x = v at h1
      cases h1 with
      | slice hp hc hx hf =>
        exact ⟨_,_,rfl,hc,hf,fun m f' h1 h2 h3 => vr_resliced (full := full) (len := len) hp hx hle h1 h2 h3⟩
      | slice0 ad _ _ _ hp =>
        refine ⟨ad,0,rfl,Nat.le_refl _,fun _ => rfl,fun m f' h1 h2 h3 => ?_⟩
        have : m = 0 := by omega
        have : l0 = 0 := by omega
        have : e0 = 0 := by omega
        subst_vars
        exact .slice0 _ _ _ _ hp
    obtain ⟨ad,cap,hv,hc,hf,hr⟩ := inv
    rcases preO_inv hmx with ⟨rfl,rfl⟩ | ⟨y,ly,rfl,rfl,hy⟩
    · simp only [Option.some.injEq,Prod.mk.injEq] at hE
      obtain ⟨rfl,rfl⟩ := hE
      refine sim_vals R (hr cap _ (by omega) (Nat.le_refl _) (fun hh => ?_)) ?_
      · simp only [Bool.and_eq_true,beq_iff_eq] at hh
        have := hf hh.1
        omega
      · rw [hat,hv]
        simp [Instr.slice,run_underlying ht,run_bounds (P := P) hlo hhi E hb hc,run_size hes]
    · simp only [] at hE
      split at hE
      case h_2 => cases hE
      rename_i m hm
      split at hE
      case isFalse => cases hE
      rename_i hmc
      simp only [Option.some.injEq,Prod.mk.injEq] at hE
      obtain ⟨rfl,rfl⟩ := hE
      have hhs : lhi.isSome = true := by rcases hmh with h | h; · simp at h
                                         · exact h
      refine sim_vals R (hr m _ hmc.1 (by omega) (fun hh => by simp at hh; exact hh.symm)) ?_
      rw [hat,hv]
      simp [Instr.slice,run_underlying ht,run_bounds_max (P := P) (cap := cap) (m := m) hlo hhi hhs hy E hb hm (by omega) hmc.1,run_size hes]
  · cases hE

theorem sim_slcA {t e : TypeId} {len es : Nat} {x : Operand} {lx : X} {lo' hi : Option Operand} {llo lhi : Option X} (ht : P.underlying t = some (.array len e)) (hes : sizeT P e = some es) (hx : preX x = some lx) (hlo : preO lo' = some llo) (hhi : preO hi = some lhi) (E : ER ρ a env) (R : Rep w0 ρ h w)
    (hE : opE cf lo (.slcA len es lx llo lhi) env h = some (l,h')) : Sim P (do pure (.value (← Instr.sliceAt t (a.eval x) (lo'.map a.eval) (hi.map a.eval) none))) w0 ρ w l h' := by
  simp only [opE] at hE
  have h1 := preX_vr E hx
  split at hE
  case h_2 => cases hE
  rename_i n off hn
  rw [hn] at h1
  obtain ⟨pl,hp,he⟩ := h1.ptr_inv
  split at hE
  case h_2 => cases hE
  rename_i l0 e0 hb
  split at hE
  case h_2 => cases hE
  rename_i rw cs hcs
  split at hE
  case isFalse => cases hE
  rename_i hlen
  simp only [Option.some.injEq,Prod.mk.injEq] at hE
  obtain ⟨rfl,rfl⟩ := hE
  obtain ⟨_,_,hle,hlen'⟩ := bnds_inv hb
  have := (R.blk n _ pl hcs hp).2.1
  refine sim_vals R (vr_resliced (full := false) (len := len) (m := len) (cap := len) hp (by omega) hle hlen' (Nat.le_refl _) (fun hh => by simp at hh; omega)) ?_
  rw [he]
  simp [Instr.sliceAt,run_underlying ht,Instr.sureAddr,run_bounds (P := P) hlo hhi E hb (Nat.le_refl _),run_size hes]
  split <;> rfl

/-! ### fields,elements -/

theorem sim_fieldAddr {t : TypeId} {fs : Array Field} {i : Nat} {f : Field} {s : Nat} {x : Operand} {lx : X} (ht : P.underlying t = some (.struct fs)) (hf : fs[i]? = some f) (hs : sizeT P f.type = some s) (h0 : s ≠ 0) (hx : preX x = some lx) (E : ER ρ a env) (R : Rep w0 ρ h w)
    (hE : opE cf lo (.fieldAddr f.offset lx) env h = some (l,h')) : Sim P (do pure (.value (← Instr.fieldAt t (a.eval x) i))) w0 ρ w l h' := by
  simp only [opE] at hE
  have h1 := preX_vr E hx
  split at hE
  case h_2 => cases hE
  rename_i n off hn
  rw [hn] at h1
  obtain ⟨pl,hp,he⟩ := h1.ptr_inv
  simp only [Option.some.injEq,Prod.mk.injEq] at hE
  obtain ⟨rfl,rfl⟩ := hE
  refine sim_vals R (VR.ptr hp) ?_
  rw [he]
  simp [Instr.fieldAt,run_underlying ht,hf,Instr.sureAddr,fieldPlace,run_size hs,h0,Place.at_add]

theorem run_part {t : TypeId} {g : Bool} {n off : Nat} (hg : isAggT P t = some g) (hn : sizeT P t = some n) {xs : Array Value} {lx : List LV} (hx : VRs ρ xs.toList lx) {v : LV}
    (hv : (if g then (if off + n ≤ lx.length then some (LV.agg ((lx.drop off).take n)) else none) else lx[off]?) = some v) (w : World) :
    ∃ u,(part t xs off).run P w = .ok u w ∧ VR ρ u v := by
  cases g with
  | true =>
    simp only [if_true] at hv
    split at hv
    · cases hv
      exact ⟨_,by simp [part,run_isAgg hg,run_size hn],VRs.agg (hx.extract off n)⟩
    · cases hv
  | false =>
    simp only [Bool.false_eq_true,if_false] at hv
    obtain ⟨u,hu,hr⟩ := hx.get hv
    have hu' : xs[off]? = some u := by simpa using hu
    exact ⟨u,by simp [part,run_isAgg hg,hu'],hr⟩

theorem sim_field {t : TypeId} {fs : Array Field} {i : Nat} {f : Field} {s : Nat} {g : Bool} {x : Operand} {lx : X} (ht : P.underlying t = some (.struct fs)) (hf : fs[i]? = some f) (hg : isAggT P f.type = some g) (hs : sizeT P f.type = some s) (hx : preX x = some lx) (E : ER ρ a env) (R : Rep w0 ρ h w)
    (hE : opE cf lo (.field g f.offset s lx) env h = some (l,h')) : Sim P (do pure (.value (← Instr.field t (a.eval x) i))) w0 ρ w l h' := by
  simp only [opE] at hE
  have h1 := preX_vr E hx
  split at hE
  case h_2 => cases hE
  rename_i cs hn
  rw [hn] at h1
  obtain ⟨xs,he,hr⟩ := h1.agg_inv
  have key : (if g then (if f.offset + s ≤ cs.length then some (LV.agg ((cs.drop f.offset).take s)) else none) else cs[f.offset]?) = some l ∧ h = h' := by
    cases g
    · simp only [Bool.false_eq_true,if_false] at hE ⊢
      split at hE
      · rename_i v hv; cases hE; exact ⟨hv,rfl⟩
      · cases hE
    · simp only [if_true] at hE ⊢
      split at hE
      · cases hE; exact ⟨by rw [if_pos ‹_›],rfl⟩
      · cases hE
  obtain ⟨hv,rfl⟩ := key
  obtain ⟨u,hu,hr'⟩ := run_part hg hs hr hv w
  refine sim_vals R hr' ?_
  rw [he]
  simp [Instr.field,run_underlying ht,hf,asAgg,hu]

theorem sim_indexAddr {t e : TypeId} {es : Nat} {x i : Operand} {lx li : X} (ht : P.underlying t = some (.slice e)) (hes : sizeT P e = some es) (hx : preX x = some lx) (hi : preX i = some li) (E : ER ρ a env) (R : Rep w0 ρ h w)
    (hE : opE cf lo (.indexAddr es lx li) env h = some (l,h')) : Sim P (do pure (.value (← Instr.indexAt t (a.eval x) (a.eval i)))) w0 ρ w l h' := by
  simp only [opE] at hE
  have h1 := preX_vr E hx
  have h2 := preX_vr E hi
  split at hE
  case h_2 => cases hE
  rename_i n off len es' full j hs hj
  rw [hs] at h1
  split at hE
  case isFalse => cases hE
  rename_i hc
  obtain ⟨rfl,hlt⟩ := hc
  simp only [Option.some.injEq,Prod.mk.injEq] at hE
  obtain ⟨rfl,rfl⟩ := hE
  obtain ⟨k,hk⟩ := asNat_inv h2 hj
  generalize a.eval x = v at h1
  cases h1 with
  | slice hp hc hx hf =>
    refine sim_vals R (VR.ptr hp) ?_
    rw [hk]
    simp [Instr.indexAt,asIntOf,run_underlying ht,hlt,run_size hes,Place.at_add]
  | slice0 ad => omega

theorem sim_indexAddrA {t e : TypeId} {len es : Nat} {x i : Operand} {lx li : X} (ht : P.underlying t = some (.array len e)) (hes : sizeT P e = some es) (hx : preX x = some lx) (hi : preX i = some li) (E : ER ρ a env) (R : Rep w0 ρ h w)
    (hE : opE cf lo (.indexAddrA len es lx li) env h = some (l,h')) : Sim P (do pure (.value (← Instr.indexAt t (a.eval x) (a.eval i)))) w0 ρ w l h' := by
  simp only [opE] at hE
  have h1 := preX_vr E hx
  have h2 := preX_vr E hi
  split at hE
  case h_2 => cases hE
  rename_i n off j hs hj
  rw [hs] at h1
  split at hE
  case isFalse => cases hE
  rename_i hlt
  simp only [Option.some.injEq,Prod.mk.injEq] at hE
  obtain ⟨rfl,rfl⟩ := hE
  obtain ⟨k,hk⟩ := asNat_inv h2 hj
  obtain ⟨pl,hp,he⟩ := h1.ptr_inv
  refine sim_vals R (VR.ptr hp) ?_
  rw [hk,he]
  simp [Instr.indexAt,asIntOf,run_underlying ht,hlt,run_size hes,Place.at_add,Instr.sureAddr]

theorem sim_index {t : TypeId} {x i : Operand} {lx li : X} (ht : P.underlying t = some .string) (hx : preX x = some lx) (hi : preX i = some li) (E : ER ρ a env) (R : Rep w0 ρ h w)
    (hE : opE cf lo (.index lx li) env h = some (l,h')) : Sim P (do pure (.value (← Instr.index t (a.eval x) (a.eval i)))) w0 ρ w l h' := by
  simp only [opE] at hE
  have h1 := preX_vr E hx
  have h2 := preX_vr E hi
  split at hE
  case h_2 => cases hE
  rename_i s j hs hj
  rw [hs] at h1
  split at hE
  case h_2 => cases hE
  rename_i b hb
  simp only [Option.some.injEq,Prod.mk.injEq] at hE
  obtain ⟨rfl,rfl⟩ := hE
  obtain ⟨k,hk⟩ := asNat_inv h2 hj
  obtain ⟨bs,he,rfl⟩ := h1.str_inv
  refine sim_vals (v := .int .u8 b.toNat) R (.int _ _) ?_
  have hb' : bs[j]? = some b := by
    have h3 : j < bs.size := by have := lt_of_getElem? hb; simpa using this
    rw [ByteArray.getElem?_lt' bs j h3]
    rw [List.getElem?_eq_getElem (by simpa using h3)] at hb
    have hb2 : bs.data[j] = b := by simpa using hb
    exact congrArg some hb2
  rw [hk,he]
  simp [Instr.index,asIntOf,run_underlying ht,hb']

theorem sim_indexA {t e : TypeId} {len es : Nat} {g : Bool} {x i : Operand} {lx li : X} (ht : P.underlying t = some (.array len e)) (hg : isAggT P e = some g) (hes : sizeT P e = some es) (hx : preX x = some lx) (hi : preX i = some li) (E : ER ρ a env) (R : Rep w0 ρ h w)
    (hE : opE cf lo (.indexA g len es lx li) env h = some (l,h')) : Sim P (do pure (.value (← Instr.index t (a.eval x) (a.eval i)))) w0 ρ w l h' := by
  simp only [opE] at hE
  have h1 := preX_vr E hx
  have h2 := preX_vr E hi
  split at hE
  case h_2 => cases hE
  rename_i cs j hs hj
  rw [hs] at h1
  split at hE
  case isFalse => cases hE
  rename_i hlt
  obtain ⟨k,hk⟩ := asNat_inv h2 hj
  obtain ⟨xs,he,hr⟩ := h1.agg_inv
  have key : (if g then (if j * es + es ≤ cs.length then some (LV.agg ((cs.drop (j * es)).take es)) else none) else cs[j * es]?) = some l ∧ h = h' := by
    cases g
    · simp only [Bool.false_eq_true,if_false] at hE ⊢
      split at hE
      · rename_i v hv; cases hE; exact ⟨hv,rfl⟩
      · cases hE
    · simp only [if_true] at hE ⊢
      split at hE
      · cases hE; exact ⟨by rw [if_pos ‹_›],rfl⟩
      · cases hE
  obtain ⟨hv,rfl⟩ := key
  obtain ⟨u,hu,hr'⟩ := run_part hg hes hr hv w
  refine sim_vals R hr' ?_
  rw [he,hk]
  simp [Instr.index,asIntOf,run_underlying ht,hlt,run_size hes,hu]

theorem sim_extract {x : Operand} {lx : X} {i : Nat} (hx : preX x = some lx) (E : ER ρ a env) (R : Rep w0 ρ h w)
    (hE : opE cf lo (.extract i lx) env h = some (l,h')) : Sim P (do pure (.value (← Instr.extract (a.eval x) i))) w0 ρ w l h' := by
  simp only [opE] at hE
  have h1 := preX_vr E hx
  split at hE
  case h_2 => cases hE
  rename_i vs hs
  rw [hs] at h1
  split at hE
  case h_2 => cases hE
  rename_i v hv
  simp only [Option.some.injEq,Prod.mk.injEq] at hE
  obtain ⟨rfl,rfl⟩ := hE
  obtain ⟨cs,he,hr⟩ := h1.tup_inv
  obtain ⟨u,hu,hr'⟩ := hr.get hv
  have hu' : cs[i]? = some u := by simpa using hu
  refine sim_vals R hr' ?_
  rw [he]
  simp [Instr.extract,hu']
end
end Lg
/- Operations,continued: append,copy,make,lengths,maps. -/
namespace Lg
open Go Go.RowKit
set_option linter.unusedSimpArgs false
set_option linter.unusedVariables false
section
variable {P : Program} {m : Bool} {w0 : Ini m} {ρ : List Place} {h h' : Heap} {w : World} {a : Act} {env : Env} {cf : CallF} {lo : Nat} {l : LV}

theorem run_lenOf {v : Value} {lv : LV} {n : Nat} (hv : VR ρ v lv) (hn : lenOf lv = some n) (w : World) : (Builtin.lenOf v).run P w = .ok n w := by
  unfold lenOf at hn
  cases hv <;> simp at hn <;> subst hn <;> first | rfl | simp [Builtin.lenOf]

theorem bytes_vr (ρ : List Place) : ∀ (bs : List UInt8),VRs ρ (bs.map fun (b : UInt8) => Value.int .u8 b.toNat) (bs.map fun b => LV.int .u8 b.toNat)
  | [] => .nil ρ
  | b :: bs => .cons (.int _ _) (bytes_vr ρ bs)

/-- The cells that append and copy read. -/
theorem run_src {v : Value} {lv : LV} {es k : Nat} {new : List LV} (hv : VR ρ v lv) (hs : srcOf es h lv = some (new,k)) (R : Rep w0 ρ h w) :
    (Builtin.lenOf v).run P w = .ok k w ∧ ∃ vs : Array Value,VRs ρ vs.toList new ∧ new.all LV.single = true ∧ new.length = k * es ∧
      ∀ m,m ≤ k → (Builtin.firstCells es m v).run P w = .ok (vs.extract 0 (m * es)) w := by
  unfold srcOf at hs
  split at hs
  · rename_i s
    split at hs
    case isFalse => cases hs
    rename_i he
    cases hs
    obtain ⟨b,rfl,rfl⟩ := hv.str_inv
    refine ⟨by simp [Builtin.lenOf],(b.data.map fun (x : UInt8) => Value.int .u8 x.toNat),?_,by rw [List.all_eq_true]; intro x hx; obtain ⟨b,_,rfl⟩ := List.mem_map.1 hx; rfl,by simp [he],fun m hm => ?_⟩
    · have := bytes_vr ρ b.data.toList
      simpa using this
    · subst he
      simp only [Builtin.firstCells,Sem.run_pure,Nat.mul_one]
      congr 1
      simp [ByteArray.data_extract]
  · cases hs
    cases hv
    refine ⟨rfl,#[],.nil ρ,rfl,by simp,fun m hm => ?_⟩
    simp [Builtin.firstCells]
  · rename_i n off len es' f
    split at hs
    · rename_i h0
      subst h0
      cases hs
      refine ⟨run_lenOf hv rfl w,#[],.nil ρ,rfl,by simp,fun m hm => ?_⟩
      have : m = 0 := by omega
      subst this
      cases hv <;> simp [Builtin.firstCells,loadCells,loadCellsFrom]
    split at hs
    case isFalse => cases hs
    rename_i he
    subst he
    split at hs
    case h_2 => cases hs
    rename_i cs hcs
    cases hs
    simp only [cellsOf] at hcs
    split at hcs
    case h_2 => cases hcs
    rename_i rw cs' hb
    split at hcs
    case isFalse => cases hcs
    rename_i hle
    cases hcs
    refine ⟨run_lenOf hv rfl w,?_⟩
    have sing : ∀ (p q : Nat),((cs'.drop p).take q).all LV.single = true := by
      intro p q
      obtain ⟨pl,hp⟩ := R.place hb
      have h0 := (R.blk n _ pl hb hp).1
      rw [List.all_eq_true] at h0 ⊢
      exact fun x hx => h0 x (List.mem_of_mem_drop (List.mem_of_mem_take hx))
    cases hv with
    | slice hp hc hx hf =>
      obtain ⟨vs,h1,h2,h3⟩ := R.cells hb hp off (k * es') hle
      refine ⟨vs.toArray,by simpa using h1,sing _ _,by simp; omega,fun m hm => ?_⟩
      have hmm : m * es' ≤ k * es' := Nat.mul_le_mul_right _ hm
      have := run_loadCells_list (P := P) w _ (vs.take (m * es')) (fun j v hj => by
        rw [List.getElem?_take] at hj
        split at hj
        · exact h3 j v hj
        · cases hj)
      rw [List.length_take,Nat.min_eq_left (by omega)] at this
      simp only [Builtin.firstCells,this]
      simp [List.extract_eq_take_drop]
    | slice0 ad =>
      refine ⟨#[],by simpa using VRs.nil ρ,by simp,by simp,fun m hm => ?_⟩
      have : m = 0 := by omega
      subst this
      simp [Builtin.firstCells,loadCells,loadCellsFrom]
  · cases hs

theorem growBy_bound (need : Nat) : ∀ (r c : Nat),c ≤ need + (need + 768) / 4 → Builtin.growBy need r c ≤ need + (need + 768) / 4
  | 0,c,h => h
  | r + 1,c,h => by
    unfold Builtin.growBy
    split
    · exact h
    · exact growBy_bound need r _ (by omega)

theorem nextslicecap_bound {need old : Nat} (h : old < need) : Builtin.nextslicecap need old ≤ 2 * (need + 512) := by
  unfold Builtin.nextslicecap
  split
  · omega
  · split
    · omega
    · have := growBy_bound need 4 old (by omega)
      omega

section
variable {t u e : TypeId} {i : TypeInfo} {ty : TypeId}

/-- What append takes its second argument from. -/
def Src (ud : TypeDesc) : Prop := ud = .string ∨ ∃ e2,ud = .slice e2

theorem run_append_in {x : Value} {sLen sCap k : Nat} {base : Option Addr} {ud : TypeDesc} (ht : P.underlying t = some (.slice e)) (hu : P.underlying u = some ud) (hni : Src ud) (hi : P.info? e = some i)
    (hk : (Builtin.lenOf x).run P w = .ok k w) {new : Array Value} (hn : (Builtin.firstCells i.size k x).run P w = .ok new w) (hr : sLen + k ≤ sCap) :
    (Builtin.append_ #[t,u] ty #[.slice base sLen sCap,x]).run P w = match base with
      | none => .ok (.slice none (sLen + k) sCap) w
      | some ad => ((storeCells (ad.add (sLen * i.size)) new.toList).run P w).andThen fun _ w' => .ok (.slice (some ad) (sLen + k) sCap) w' := by
  rcases hni with rfl | ⟨e2,rfl⟩
  · cases base <;> simp [Builtin.append_,run_underlying ht,run_underlying hu,Go.sizeOf,typeInfo,hi,hk,hr,hn]
  · cases base <;> simp [Builtin.append_,run_underlying ht,run_underlying hu,Go.sizeOf,typeInfo,hi,hk,hr,hn]

theorem run_append_out {x : Value} {sLen sCap k : Nat} {base : Option Addr} {ud : TypeDesc} {z : Value} (ht : P.underlying t = some (.slice e)) (hu : P.underlying u = some ud) (hni : Src ud) (hi : P.info? e = some i) (hz : i.zero = some z) (hby : i.bytes ≠ 0)
    (hk : (Builtin.lenOf x).run P w = .ok k w) {new old : Array Value} (hn : (Builtin.firstCells i.size k x).run P w.drew = .ok new w.drew) (ho : (Builtin.firstCells i.size sLen (.slice base sLen sCap)).run P w.drew = .ok old w.drew)
    (hr : sCap < sLen + k) (hb : (sLen + k + 512) * i.bytes ≤ 140737488355328) :
    ∃ cap,sLen + k ≤ cap ∧ (Builtin.append_ #[t,u] ty #[.slice base sLen sCap,x]).run P w =
      .ok (.slice (some ⟨w.heap.size,0,none⟩) (sLen + k) cap) (w.drew.alloc (.cells (old ++ new ++ Builtin.zeroCells z.cells (cap - (sLen + k))) e)) := by
  refine ⟨grownCap w (sLen + k) sCap e,by simp [grownCap,Question.cut],?_⟩
  have hmul : ¬ (281474976710656 < Builtin.nextslicecap (sLen + k) sCap * i.bytes) := by
    have h1 := nextslicecap_bound hr
    have h2 := Nat.mul_le_mul_right i.bytes h1
    have h3 : 2 * (sLen + k + 512) * i.bytes = 2 * ((sLen + k + 512) * i.bytes) := by rw [Nat.mul_assoc]
    omega
  have hn0 : ¬ (sLen + k ≤ sCap) := by omega
  rcases hni with rfl | ⟨e2,rfl⟩
  · simp [Builtin.append_,run_underlying ht,run_underlying hu,Go.sizeOf,typeInfo,zeroValue,hi,hz,hk,hn0,hby,hmul,Question.forced,hn,ho,newRow,grownCap,Array.append_assoc]
  · simp [Builtin.append_,run_underlying ht,run_underlying hu,Go.sizeOf,typeInfo,zeroValue,hi,hz,hk,hn0,hby,hmul,Question.forced,hn,ho,newRow,grownCap,Array.append_assoc]
end

end
end Lg
/- Operations,continued: append. -/
namespace Lg
open Go Go.RowKit
set_option linter.unusedSimpArgs false
set_option linter.unusedVariables false
section
variable {P : Program} {m : Bool} {w0 : Ini m} {ρ : List Place} {h h' : Heap} {w : World} {a : Act} {env : Env} {cf : CallF} {lo : Nat} {l : LV}

theorem size_zeroCells' (z : Array Value) (n : Nat) : (Builtin.zeroCells z n).size = n * z.size := by simp [Builtin.zeroCells]

theorem run_storeCells_tok {n m u : Nat} {pt : Place} (R : Rep w0 ρ h w) (hn : h[n]? = some (.tok m u)) (hp : ρ[n]? = some pt) {ls : List LV} {vs : List Value} (hv : VRs ρ vs ls) (hs : ls.all LV.single = true) (hk : ls.length ≤ pt.ext) :
    (storeCells (pt.at 0) vs).run P w = .ok () (w.setCells pt.block pt.off vs) := by
  obtain ⟨_,hw⟩ := R.blk n _ pt hn hp
  have hvl := hv.1
  refine run_storeCells_cells pt.block pt.off vs 0 w (fun j hj => ?_) (fun j hj => ?_) (all_oneCell hv hs)
  · have := (hw j (by omega)).1; simpa [Place.at,Nat.add_assoc] using this
  · have := (hw j (by omega)).2; simpa [Place.at,Nat.add_assoc] using this

theorem sim_append {t u e : TypeId} {i : TypeInfo} {ud : TypeDesc} {ty : TypeId} {x y : Operand} {lx ly : X} (ht : P.underlying t = some (.slice e)) (hu : P.underlying u = some ud) (hni : Src ud) (hi : P.info? e = some i)
    (hby : i.bytes ≠ 0) (hsz0 : i.size ≠ 0) (hzs : i.zero.map (fun z => z.cells.size) = some i.size)
    (hx : preX x = some lx) (hy : preX y = some ly) (E : ER ρ a env) (R : Rep w0 ρ h w)
    {ap : Bool} (hE : opE cf lo (.append ap i.size i.bytes lx ly) env h = some (l,h')) : Sim P (do pure (.value (← Builtin.append_ #[t,u] ty #[a.eval x,a.eval y]))) w0 ρ w l h' := by
  obtain ⟨z,hz,hzc⟩ := Option.map_eq_some_iff.1 hzs
  have h1 := preX_vr E hx
  have h2 := preX_vr E hy
  simp only [opE,appendE] at hE
  split at hE
  case h_1 => cases hE
  rename_i new k hsrc
  obtain ⟨hk,nv,hnv,hnsg,hnl,hnf⟩ := run_src (P := P) h2 hsrc R
  obtain ⟨_,nv',hnv',_,_,hnf'⟩ := run_src (P := P) h2 hsrc R.drew
  have hns : nv.size = k * i.size := by have := hnv.1; simp at this; omega
  have hns' : nv'.size = k * i.size := by have := hnv'.1; simp at this; omega
  have hn1 : (Builtin.firstCells i.size k (a.eval y)).run P w = .ok nv w := by
    rw [hnf k (Nat.le_refl _)]
    congr 1
    rw [← hns]; simp
  have hn2 : (Builtin.firstCells i.size k (a.eval y)).run P w.drew = .ok nv' w.drew := by
    rw [hnf' k (Nat.le_refl _)]
    congr 1
    rw [← hns']; simp
  -- a new row
  have fresh : ∀ {h1 : Heap} {w1 : World} (R1 : Rep w0 ρ h1 w1) (hw : w1 = w.drew) (old : Array Value) (oldl : List LV) (sLen cap : Nat),VRs ρ old.toList oldl → oldl.all LV.single = true → old.size = sLen * i.size → sLen + k ≤ cap →
      ∃ ρ',Ext ρ ρ' ∧ Rep w0 ρ' (h1 ++ grownE ap h1.length (sLen + k) i.size (oldl ++ new)) (w.drew.alloc (.cells (old ++ nv' ++ Builtin.zeroCells z.cells (cap - (sLen + k))) e)) ∧
      VR ρ' (.slice (some ⟨w.heap.size,0,none⟩) (sLen + k) cap) (.slice h1.length 0 (sLen + k) i.size false) := by
    intro h1 w1 R1 hw old oldl sLen cap ho hosg hos hcap
    subst hw
    have hsz : (old ++ nv' ++ Builtin.zeroCells z.cells (cap - (sLen + k))).size = cap * i.size := by
      simp only [Array.size_append,hos,hns',size_zeroCells',hzc,← Nat.add_mul]
      congr 1; omega
    have hoN : (oldl ++ new).length = (sLen + k) * i.size := by
      have h1 := ho.1
      simp only [Array.length_toList] at h1
      rw [List.length_append,hnl,← h1,hos,Nat.add_mul]
    have key : Rep w0 (ρ ++ [⟨w.heap.size,0,(old ++ nv' ++ Builtin.zeroCells z.cells (cap - (sLen + k))).size⟩]) (h1 ++ [.cells true (oldl ++ new)]) (w.drew.alloc (.cells (old ++ nv' ++ Builtin.zeroCells z.cells (cap - (sLen + k))) e)) ∧
      VR (ρ ++ [⟨w.heap.size,0,(old ++ nv' ++ Builtin.zeroCells z.cells (cap - (sLen + k))).size⟩]) (.slice (some ⟨w.heap.size,0,none⟩) (sLen + k) cap) (.slice h1.length 0 (sLen + k) i.size false) := by
      constructor
      · refine R1.alloc (n := (sLen + k) * i.size) e (by rw [List.all_append,hosg,hnsg]; rfl) ?_ ?_
        · have h3 := ho.append hnv'
          have e1 : (old ++ nv' ++ Builtin.zeroCells z.cells (cap - (sLen + k))).toList.take ((sLen + k) * i.size) = old.toList ++ nv'.toList := by
            simp only [Array.toList_append]
            rw [List.take_append_of_le_length (by simp [hos,hns',Nat.add_mul])]
            rw [List.take_of_length_le (by simp [hos,hns',Nat.add_mul])]
          rw [e1]; exact h3
        · rw [hsz]; exact Nat.mul_le_mul_right _ hcap
      · exact VR.slice (n := h1.length) (off := 0) (pl := ⟨w.heap.size,0,(old ++ nv' ++ Builtin.zeroCells z.cells (cap - (sLen + k))).size⟩) (by rw [← R1.len]; exact List.getElem?_concat_length) hcap (by show 0 + cap * i.size ≤ (old ++ nv' ++ Builtin.zeroCells z.cells (cap - (sLen + k))).size; rw [hsz]; omega) (by simp)
    obtain ⟨k1,k2⟩ := key
    cases ap with
    | false => exact ⟨_,Ext.app _ _,k1,k2⟩
    | true =>
      have k3 := k1.split
      rw [hoN,List.append_assoc h1] at k3
      exact ⟨_,(Ext.app _ _).trans (Ext.app _ _),k3,k2.mono (Ext.app _ _)⟩
  split at hE
  · -- nil
    rename_i hs
    rw [hs] at h1
    have hv : a.eval x = .slice none 0 0 := by generalize a.eval x = v at h1; cases h1; rfl
    by_cases hk0 : k = 0
    · rw [if_pos hk0] at hE
      simp only [Option.some.injEq,Prod.mk.injEq] at hE
      obtain ⟨rfl,rfl⟩ := hE
      refine sim_vals (v := .slice none 0 0) R .nilslice ?_
      rw [hv,run_append_in (base := none) ht hu hni hi hk hn1 (by omega)]
      simp [hk0]
    · rw [if_neg hk0] at hE
      split at hE
      case isFalse => cases hE
      rename_i hb
      simp only [Option.some.injEq,Prod.mk.injEq] at hE
      obtain ⟨rfl,rfl⟩ := hE
      obtain ⟨cap,hcap,hrun⟩ := run_append_out (P := P) (w := w) (ty := ty) (sLen := 0) (sCap := 0) (base := none) (old := #[]) ht hu hni hi hz hby hk hn2 (by simp [Builtin.firstCells]) (by omega) (by simpa using hb)
      obtain ⟨ρ',X',R',V'⟩ := fresh R.drew rfl #[] [] 0 cap (.nil ρ) rfl (by simp) hcap
      simp only [Nat.zero_add] at V' R'
      refine ⟨_,_,_,X',R',V',.inl ?_⟩
      rw [hv]
      simp only [Sem.run_bind,hrun,Result.andThen_ok,Sem.run_pure,Nat.zero_add]
  · rename_i n off len es' full hs
    rw [hs] at h1
    split at hE
    · rename_i hlf
      obtain ⟨rfl,rfl⟩ := hlf
      have inv : ∃ ad,a.eval x = .slice (some ad) 0 0 := by
        generalize a.eval x = v at h1
        cases h1 with
        | slice hp hc hx hf => have := hf rfl; subst this; exact ⟨_,rfl⟩
        | slice0 ad => exact ⟨ad,rfl⟩
      obtain ⟨ad,hv⟩ := inv
      by_cases hk0 : k = 0
      · rw [if_pos hk0] at hE
        simp only [Option.some.injEq,Prod.mk.injEq] at hE
        obtain ⟨rfl,rfl⟩ := hE
        subst hk0
        have hnil : nv = #[] := Array.eq_empty_of_size_eq_zero (by simpa using hns)
        refine sim_vals R h1 ?_
        rw [hv,run_append_in (base := some _) ht hu hni hi hk hn1 (by omega)]
        simp [hnil,storeCells]
      · rw [if_neg hk0] at hE
        split at hE
        case isFalse => cases hE
        rename_i hb
        simp only [Option.some.injEq,Prod.mk.injEq] at hE
        obtain ⟨rfl,rfl⟩ := hE
        obtain ⟨cap,hcap,hrun⟩ := run_append_out (P := P) (w := w) (ty := ty) (sLen := 0) (sCap := 0) (base := some ad) (old := #[]) ht hu hni hi hz hby hk hn2 (by simp [Builtin.firstCells,loadCells,loadCellsFrom]) (by omega) (by simpa using hb)
        obtain ⟨ρ',X',R',V'⟩ := fresh R.drew rfl #[] [] 0 cap (.nil ρ) rfl (by simp) hcap
        simp only [Nat.zero_add] at V' R'
        refine ⟨_,_,_,X',R',V',.inl ?_⟩
        rw [hv]
        simp only [Sem.run_bind,hrun,Result.andThen_ok,Sem.run_pure,Nat.zero_add]
    rename_i hlf
    split at hE
    · cases hE
    rename_i hes
    simp only [ne_eq,Decidable.not_not] at hes
    subst hes
    by_cases hk0 : k = 0
    · rw [if_pos hk0] at hE
      simp only [Option.some.injEq,Prod.mk.injEq] at hE
      obtain ⟨rfl,rfl⟩ := hE
      subst hk0
      have hnil : nv = #[] := Array.eq_empty_of_size_eq_zero (by simpa using hns)
      refine sim_vals R h1 ?_
      generalize a.eval x = v at h1
      cases h1 with
      | slice hp hc hx hf =>
        rw [run_append_in (base := some _) ht hu hni hi hk hn1 (by omega)]
        simp [hnil,storeCells]
      | slice0 ad =>
        rw [run_append_in (base := some _) ht hu hni hi hk hn1 (by omega)]
        simp [hnil,storeCells]
    · rw [if_neg hk0] at hE
      split at hE
      case isFalse => cases hE
      rename_i hb
      split at hE
      case h_2 => cases hE
      rename_i rw cs hn
      split at hE
      case isFalse => cases hE
      rename_i hle
      -- the old cells,read in the drawn world
      have hold : ∃ ov : Array Value,VRs ρ ov.toList ((cs.drop off).take (len * i.size)) ∧ ((cs.drop off).take (len * i.size)).all LV.single = true ∧ ov.size = len * i.size ∧ ∀ cap ad,a.eval x = .slice (some ad) len cap → (Builtin.firstCells i.size len (.slice (some ad) len cap)).run P w.drew = .ok ov w.drew := by
        obtain ⟨_,ov,h3,h3s,h4,h5⟩ := run_src (P := P) (es := i.size) (k := len) (new := (cs.drop off).take (len * i.size)) h1 (by
          by_cases hl0 : len = 0
          · subst hl0; simp [srcOf]
          · simp [srcOf,cellsOf,hn,hle,hl0]) R.drew
        have h6 : ov.size = len * i.size := by have := h3.1; simp at this; simp at h4; omega
        refine ⟨ov,h3,h3s,h6,fun cap ad hv => ?_⟩
        have := h5 len (Nat.le_refl _)
        rw [hv] at this
        rw [this]
        congr 1
        rw [← h6]; simp
      obtain ⟨ov,hov,hosg,hos,hof⟩ := hold
      have grow : ∀ {h1 : Heap} (R1 : Rep w0 ρ h1 w.drew) (cap : Nat) (ad : Addr),a.eval x = .slice (some ad) len cap → cap < len + k →
          Sim P (do pure (.value (← Builtin.append_ #[t,u] ty #[a.eval x,a.eval y]))) w0 ρ w (.slice h1.length 0 (len + k) i.size false) (h1 ++ grownE ap h1.length (len + k) i.size ((cs.drop off).take (len * i.size) ++ new)) := by
        intro h1 R1 cap ad hv hlt
        obtain ⟨cap',hcap,hrun⟩ := run_append_out (P := P) (w := w) (ty := ty) (sLen := len) (sCap := cap) (base := some ad) (old := ov) ht hu hni hi hz hby hk hn2 (hof cap ad hv) hlt hb
        obtain ⟨ρ',X',R',V'⟩ := fresh R1 rfl ov _ len cap' hov hosg hos hcap
        refine ⟨_,_,_,X',R',V',.inl ?_⟩
        rw [hv]
        simp only [Sem.run_bind,hrun,Result.andThen_ok,Sem.run_pure]
      obtain ⟨pl,hp⟩ := R.place hn
      have dead : ∀ (hrw : rw = true),Rep w0 ρ (h.set n .dead) w := fun hrw => by
        subst hrw
        exact R.upd hn hp (fun h => by simp [LBlk.rw] at h) (fun h => by simp [LBlk.live] at h) True.intro R.below (Nat.le_refl _) (fun m c pm _ _ _ _ => Keeps.refl _ _) rfl
      split at hE
      · -- known to be full
        rename_i hfull
        simp only [Option.some.injEq,Prod.mk.injEq] at hE
        obtain ⟨rfl,rfl⟩ := hE
        have inv : ∃ ad,a.eval x = .slice (some ad) len len := by
          generalize a.eval x = v at h1
          cases h1 with
          | slice hp hc hx hf => have := hf hfull; subst this; exact ⟨_,rfl⟩
          | slice0 ad => exact ⟨ad,rfl⟩
        obtain ⟨ad,hv⟩ := inv
        exact grow R.drew len ad hv (by omega)
      · rename_i hnf'
        cases hap : ap with
        | true =>
          subst hap
          simp only [if_true] at hE
          split at hE
          case h_2 => cases hE
          rename_i m u htok
          split at hE
          case isFalse => cases hE
          rename_i hrl
          obtain ⟨rfl,rfl,hlo,rfl⟩ := hrl
          simp only [Option.some.injEq,Prod.mk.injEq] at hE
          obtain ⟨rfl,rfl⟩ := hE
          have hlen0 : (h.set (m + 1) .dead).length = h.length := by simp
          have hpt := R.place htok
          obtain ⟨pt,hpt⟩ := hpt
          have Rd : Rep w0 ρ (h.set (m + 1) .dead) w := R.upd htok hpt (fun h => by cases h) (fun h => by cases h) True.intro R.below (Nat.le_refl _) (fun m c pm _ _ _ _ => Keeps.refl _ _) rfl
          have hgr : ∀ (cap : Nat) (ad : Addr),a.eval x = .slice (some ad) len cap → cap < len + k → Sim P (do pure (.value (← Builtin.append_ #[t,u] ty #[a.eval x,a.eval y]))) w0 ρ w (.slice h.length 0 (len + k) i.size false) (h.set (m + 1) .dead ++ grownE true h.length (len + k) i.size ((cs.drop off).take (len * i.size) ++ new)) := by
            intro cap ad hv hlt
            have := grow Rd.drew cap ad hv hlt
            rwa [hlen0] at this
          generalize hev : a.eval x = v at h1 hgr ⊢
          cases h1 with
          | slice0 ad => exact hgr 0 ad rfl (by omega)
          | @slice _ _ _ cap _ _ pl2 hp2 hc hx hf =>
            rw [hp] at hp2
            cases hp2
            by_cases hroom : len + k ≤ cap
            case neg => exact hgr cap _ rfl (by omega)
            have hcapm : (len + k) * i.size ≤ cap * i.size := Nat.mul_le_mul_right _ hroom
            have hsplit : (len + k) * i.size = len * i.size + k * i.size := Nat.add_mul _ _ _
            have hb1 := (R.blk m _ pl hn hp).2.1
            obtain ⟨⟨pm,hpm,hux,hpe⟩,hw⟩ := R.blk (m + 1) _ pt htok hpt
            rw [hp] at hpm; cases hpm
            have hvl := hnv.1
            have hx3 := R.extend (ls := new) (vs := nv.toList) (off := off) hn hp htok hnsg hnv (by omega) (by omega) (by rw [hnl]; omega)
            have hst := run_storeCells_tok (P := P) R htok hpt hnv hnsg (by rw [hpe,hnl]; show _ ≤ pl.ext - _; omega)
            have hrun : (Builtin.append_ #[t,u] ty #[.slice (some (pl.at off)) len cap,a.eval y]).run P w = .ok (.slice (some (pl.at off)) (len + k) cap) (w.setCells pl.block (pl.off + (off + len * i.size)) nv.toList) := by
              rw [run_append_in (base := some _) ht hu hni hi hk hn1 hroom]
              rw [hpe] at hst
              have e0 : (Place.mk pl.block (pl.off + (off + len * i.size)) (pl.ext - (off + len * i.size))).at 0 = pl.at (off + len * i.size) := by simp [Place.at]
              rw [e0] at hst
              simp only [Place.at_add,hst,Result.andThen_ok]
            have e1 : off + len * i.size - off + new.length = (len + k) * i.size := by rw [hnl]; omega
            have e2 : off + len * i.size - off = len * i.size := by omega
            rw [e1,e2,List.append_assoc (h.set _ _)] at hx3
            refine ⟨.slice (some ((Place.mk pl.block (pl.off + off) (pl.ext - off)).at 0)) (len + k) cap,_,_,(Ext.app _ _).trans (Ext.app _ _),hx3,VR.mono (Ext.app _ _) (VR.slice (n := h.length) (off := 0) (pl := ⟨pl.block,pl.off + off,pl.ext - off⟩) (by rw [← R.len]; simp) hroom (by show 0 + cap * i.size ≤ pl.ext - off; omega) (by simp)),.inl ?_⟩
            simp only [Sem.run_bind,hrun,Result.andThen_ok,Sem.run_pure]
            simp [Place.at]
        | false =>
        subst hap
        simp only [Bool.false_eq_true,if_false] at hE
        split at hE
        case isFalse => cases hE
        rename_i hrl
        obtain ⟨hrw,hlo⟩ := hrl
        simp only [Option.some.injEq,Prod.mk.injEq] at hE
        obtain ⟨rfl,rfl⟩ := hE
        have hlen0 : (h.set n .dead).length = h.length := by simp
        have Rd := dead hrw
        have hgr : ∀ (cap : Nat) (ad : Addr),a.eval x = .slice (some ad) len cap → cap < len + k → Sim P (do pure (.value (← Builtin.append_ #[t,u] ty #[a.eval x,a.eval y]))) w0 ρ w (.slice h.length 0 (len + k) i.size false) (h.set n .dead ++ grownE false h.length (len + k) i.size ((cs.drop off).take (len * i.size) ++ new)) := by
          intro cap ad hv hlt
          have := grow Rd.drew cap ad hv hlt
          rwa [hlen0] at this
        generalize hev : a.eval x = v at h1 hgr ⊢
        cases h1 with
        | slice0 ad => exact hgr 0 ad rfl (by omega)
        | @slice _ _ _ cap _ _ pl2 hp2 hc hx hf =>
          rw [hp] at hp2
          cases hp2
          by_cases hroom : len + k ≤ cap
          case neg => exact hgr cap _ rfl (by omega)
          -- in place
          have hcapm : (len + k) * i.size ≤ cap * i.size := Nat.mul_le_mul_right _ hroom
          have hsplit : (len + k) * i.size = len * i.size + k * i.size := Nat.add_mul _ _ _
          subst hrw
          obtain ⟨b0,b1,b2,b3⟩ := R.blk n _ pl hn hp
          have hst := run_storeCells_at' (P := P) R hn hp (off + len * i.size) hnv hnsg (by rw [hnl]; omega)
          have hvl := hnv.1
          have hrun : (Builtin.append_ #[t,u] ty #[.slice (some (pl.at off)) len cap,a.eval y]).run P w = .ok (.slice (some (pl.at off)) (len + k) cap) (w.setCells pl.block (pl.off + (off + len * i.size)) nv.toList) := by
            rw [run_append_in (base := some _) ht hu hni hi hk hn1 hroom]
            simp only [Place.at_add,hst,Result.andThen_ok]
          have hB : Bel w0.heap.size w0 (w.setCells pl.block (pl.off + (off + len * i.size)) nv.toList) := Bel.setCells _ (R.own n _ pl hn rfl hp) _ _ _ R.below
          have hin : ∀ (j : Nat) (hj : j < nv.toList.length),(w.setCells pl.block (pl.off + (off + len * i.size)) nv.toList).cell? (pl.at (off + len * i.size + j)) = some nv.toList[j] := by
            intro j hj
            have := World.cell?_setCells_in pl.block nv.toList (pl.off + (off + len * i.size)) w (fun j hj => by
              have := (b3 rfl (off + len * i.size + j) (by omega)).1
              simpa [Place.at,Nat.add_assoc] using this) j hj
            simpa [Place.at,Nat.add_assoc] using this
          have hout : ∀ (q : Nat),q < off + len * i.size ∨ off + len * i.size + nv.toList.length ≤ q → (w.setCells pl.block (pl.off + (off + len * i.size)) nv.toList).cell? (pl.at q) = w.cell? (pl.at q) := by
            intro q hq
            exact World.cell?_setCells_out _ _ _ _ _ (fun _ _ => by simp only [Place.at]; omega)
          have hat : ∀ (q : Nat),(Place.mk pl.block (pl.off + off) (pl.ext - off)).at q = pl.at (off + q) := fun q => by simp [Place.at,Nat.add_assoc]
          have hdis : ∀ (m : Nat) (c : LBlk) (pm : Place),(h.set n .dead)[m]? = some c → c.live = true → ρ[m]? = some pm → Dis pl (c.span pm) := by
            intro m c pm hc hl hm
            rw [List.getElem?_set] at hc
            split at hc
            · split at hc
              · simp at hc; subst hc; simp [LBlk.live] at hl
              · cases hc
            · rename_i hne
              exact R.dis n m _ c pl pm hne hn hc hp hm rfl hl
          have hol : ((cs.drop off).take (len * i.size)).length = len * i.size := by simp; omega
          refine ⟨.slice (some ((Place.mk pl.block (pl.off + off) (pl.ext - off)).at 0)) (len + k) cap,_,ρ ++ [⟨pl.block,pl.off + off,pl.ext - off⟩],Ext.app _ _,Rd.push (pl := ⟨pl.block,pl.off + off,pl.ext - off⟩) ?_ hB (by rw [setCells_size]; exact Nat.le_refl _) (by rw [setCells_size]; exact (R.lt n pl hp).imp id (fun h => by show pl.ext - off = 0; omega)) (fun _ => R.own n _ pl hn rfl hp) ?_ ?_ ?_,?_,.inl ?_⟩
          · refine ⟨by rw [List.all_append,hosg,hnsg]; rfl,by rw [List.length_append,hol,hnl]; show _ ≤ pl.ext - off; omega,?_,?_⟩
            · intro q lq hq
              rw [hat]
              rcases Nat.lt_or_ge q (len * i.size) with h1 | h1
              · rw [hout (off + q) (.inl (by omega))]
                rw [List.getElem?_append_left (by omega),List.getElem?_take,if_pos h1,List.getElem?_drop] at hq
                obtain ⟨v,hv,hr⟩ := b2 _ lq hq
                exact ⟨v,hv,hr.mono (Ext.app _ _)⟩
              · rw [List.getElem?_append_right (by omega),hol] at hq
                have hq' : q - len * i.size < nv.toList.length := by rw [hvl]; exact lt_of_getElem? hq
                have := hin (q - len * i.size) hq'
                rw [show off + len * i.size + (q - len * i.size) = off + q by omega] at this
                exact ⟨_,this,(hnv.2 _ _ lq (List.getElem?_eq_getElem hq') hq).mono (Ext.app _ _)⟩
            · intro _ q hq
              rw [hat]
              simp only at hq
              refine ⟨?_,by rw [World.frozen?_setCells]; exact (b3 rfl (off + q) (by omega)).2⟩
              rcases Nat.lt_or_ge q (len * i.size) with h1 | h1
              · rw [hout (off + q) (.inl (by omega))]; exact (b3 rfl (off + q) (by omega)).1
              · rcases Nat.lt_or_ge (q - len * i.size) nv.toList.length with h2 | h2
                · have := hin _ h2
                  rw [show off + len * i.size + (q - len * i.size) = off + q by omega] at this
                  rw [this]; rfl
                · rw [hout (off + q) (.inr (by omega))]; exact (b3 rfl (off + q) (by omega)).1
          · intro m c pm hc hl hm
            exact Keeps.setCells _ _ _ _ _ (hdis m c pm hc hl hm) (by rw [hvl,hnl]; omega)
          · intro _ m c pm hc hl hm
            have := hdis m c pm hc hl hm
            unfold Dis at this ⊢
            simp only
            omega
          · intro _ m c pm hc hr hm
            have := hdis m c pm hc (LBlk.live_of_rw hr) hm
            rw [LBlk.span_rw hr] at this
            unfold Dis at this
            unfold Dis LBlk.span
            simp only
            omega
          · refine VR.slice (n := h.length) (off := 0) (pl := ⟨pl.block,pl.off + off,pl.ext - off⟩) (by rw [← R.len]; simp) hroom (by simp only; omega) (by simp)
          · simp only [Sem.run_bind,hrun,Result.andThen_ok,Sem.run_pure]
            simp [Place.at]
  · cases hE
end
end Lg
/- Operations,continued: composite values,bytes and strings,copy,make,lengths. -/
namespace Lg
open Go Go.RowKit
set_option linter.unusedSimpArgs false
set_option linter.unusedVariables false
section
variable {P : Program} {m : Bool} {w0 : Ini m} {ρ : List Place} {h h' : Heap} {w : World} {a : Act} {env : Env} {cf : CallF} {lo : Nat} {l : LV}

/-! ### composite values -/

theorem foldl_put (off : Nat) : ∀ (l : List Value) (k : Nat) (cs : Array Value),off + k + l.length ≤ cs.size →
    ((l.zipIdx k).foldl (fun (cs : Array Value) (p : Value × Nat) => cs.setIfInBounds (off + p.2) p.1) cs).toList = cs.toList.take (off + k) ++ l ++ cs.toList.drop (off + k + l.length)
  | [],k,cs,h => by simp
  | v :: l,k,cs,h => by
    simp only [List.length_cons] at h
    simp only [List.zipIdx_cons,List.foldl_cons]
    rw [foldl_put off l (k + 1) (cs.setIfInBounds (off + k) v) (by simp; omega)]
    rw [Array.toList_setIfInBounds]
    have hlt : off + k < cs.toList.length := by simp; omega
    have e1 : List.take (off + (k + 1)) (cs.toList.set (off + k) v) = List.take (off + k) cs.toList ++ [v] := by
      rw [List.set_eq_take_append_cons_drop,if_pos hlt,List.take_append]
      simp only [List.length_take,Nat.min_eq_left (Nat.le_of_lt hlt)]
      rw [List.take_of_length_le (by simp; omega),show off + (k + 1) - (off + k) = 1 by omega]
      rfl
    have e2 : List.drop (off + (k + 1) + l.length) (cs.toList.set (off + k) v) = List.drop (off + k + (v :: l).length) cs.toList := by
      rw [List.drop_set_of_lt (by omega)]
      congr 1
      simp only [List.length_cons]; omega
    rw [e1,e2]
    simp

theorem run_fill (E : ER ρ a env) {place : Nat → Option (Nat × Nat)} : ∀ (ps : List (Nat × Operand)) (lps : List (Nat × Nat × X)),(ps.mapM fun p => match place p.1,preX p.2 with
      | some (o,s),some x => some (o,s,x)
      | _,_ => none) = some lps → ∀ (cs : Array Value) (ls : List LV) (out : List LV),VRs ρ cs.toList ls → fillE env ls lps = some out →
      ∃ cs',Instr.fill place cs (ps.map fun p => (p.1,a.eval p.2)) = some cs' ∧ VRs ρ cs'.toList out := by
  intro ps
  induction ps with
  | nil =>
    intro lps h cs ls out hcs hf
    simp at h
    subst h
    simp only [fillE,Option.some.injEq] at hf
    subst hf
    exact ⟨cs,rfl,hcs⟩
  | cons p ps ih =>
    intro lps h cs ls out hcs hf
    rw [List.mapM_cons] at h
    simp only [Option.bind_eq_bind,Option.bind_eq_some_iff,Option.pure_def,Option.some.injEq] at h
    obtain ⟨q,hq,lps',hl,rfl⟩ := h
    split at hq
    case h_2 => cases hq
    rename_i o s x hpl hx
    cases hq
    simp only [fillE] at hf
    split at hf
    case isFalse => cases hf
    rename_i hc
    obtain ⟨hc1,hc2,hc3⟩ := hc
    have hu : x.ev env ≠ .undef := fun e => by rw [e] at hc3; simp [LV.cells,LV.single] at hc3
    have hr := (preX_vr E hx).cells hu
    have hsz : (a.eval p.2).cells.size = s := by have := hr.1; simp at this; omega
    have hcl : cs.size = ls.length := by have := hcs.1; simpa using this
    simp only [List.map_cons,Instr.fill,hpl]
    rw [if_neg (by simp only [Bool.or_eq_true,decide_eq_true_eq]; omega)]
    refine ih lps' hl _ _ out ?_ hf
    have e : ((a.eval p.2).cells.zipIdx.foldl (fun (cs : Array Value) (x : Value × Nat) => cs.setIfInBounds (o + x.2) x.1) cs).toList = cs.toList.take o ++ (a.eval p.2).cells.toList ++ cs.toList.drop (o + (a.eval p.2).cells.toList.length) := by
      rw [← Array.foldl_toList,Array.toList_zipIdx]
      have := foldl_put o (a.eval p.2).cells.toList 0 cs (by simp; omega)
      simpa using this
    have e2 : ((a.eval p.2).cells.zipIdx.foldl (fun cs (x : Value × Nat) => match x with | (c,j) => cs.setIfInBounds (o + j) c) cs).toList = cs.toList.take o ++ (a.eval p.2).cells.toList ++ cs.toList.drop (o + (a.eval p.2).cells.toList.length) := e
    rw [e2]
    exact hcs.splice hr o

theorem fillE_single : ∀ (ps : List (Nat × Nat × X)) (ls out : List LV),fillE env ls ps = some out → ls.all LV.single = true → out.all LV.single = true
  | [],ls,out,hf,hs => by simp only [fillE,Option.some.injEq] at hf; subst hf; exact hs
  | (o,s,x) :: ps,ls,out,hf,hs => by
    simp only [fillE] at hf
    split at hf
    case isFalse => cases hf
    rename_i hc
    refine fillE_single ps _ out hf ?_
    rw [List.all_eq_true] at hs
    simp only [splice,List.all_append,Bool.and_eq_true,hc.2.2,and_true,List.all_eq_true]
    exact ⟨fun y hy => hs y (List.mem_of_mem_take hy),fun y hy => hs y (List.mem_of_mem_drop hy)⟩

theorem sim_build {t : TypeId} {ps : Array (Nat × Operand)} {z : List LV} {place : Nat → Option (Nat × Nat)} {lps : List (Nat × Nat × X)} (hz : zeroT P t = some z)
    (hb : ∀ v,((P.info? t).bind (·.zero)) = some v → P.built t = fun parts => Instr.fill place v.cells parts) (hp : preParts place ps = some lps) (E : ER ρ a env) (R : Rep w0 ρ h w)
    (hE : opE cf lo (.build z lps) env h = some (l,h')) : Sim P (do pure (.value (← Instr.build t (ps.map fun (i,x) => (i,a.eval x))))) w0 ρ w l h' := by
  simp only [opE] at hE
  split at hE
  case h_2 => cases hE
  rename_i out hf
  simp only [Option.some.injEq,Prod.mk.injEq] at hE
  obtain ⟨rfl,rfl⟩ := hE
  obtain ⟨v,hv,hr⟩ := zeroT_vr hz ρ
  obtain ⟨cs',h1,h2⟩ := run_fill (place := place) E ps.toList lps hp v.cells z out hr hf
  refine sim_vals R (VRs.agg h2) (run_build w t _ cs' ?_)
  rw [hb v hv]
  simpa using h1

theorem rows_length (zs : List LV) : ∀ n,(rows zs n).length = n * zs.length
  | 0 => by simp [rows]
  | n + 1 => by simp [rows,rows_length zs n,Nat.add_mul,Nat.add_comm]

theorem rows_single (zs : List LV) (hz : zs.all LV.single = true) : ∀ n,(rows zs n).all LV.single = true
  | 0 => rfl
  | n + 1 => by rw [rows,List.all_append,hz,rows_single zs hz n]; rfl

theorem rows_get (zs : List LV) (s : Nat) (hs : zs.length = s) (h0 : s ≠ 0) : ∀ (n i : Nat),i < n * s → (rows zs n)[i]? = zs[i % s]?
  | 0,i,h => by simp at h
  | n + 1,i,h => by
    rw [rows]
    rcases Nat.lt_or_ge i s with hi | hi
    · rw [List.getElem?_append_left (by omega),Nat.mod_eq_of_lt hi]
    · rw [List.getElem?_append_right (by omega),rows_get zs s hs h0 n (i - zs.length) (by rw [Nat.add_mul] at h; omega),hs]
      congr 1
      conv => rhs; rw [show i = (i - s) + s by omega]
      rw [Nat.add_mod_right]

theorem made_vr {zv : Array Value} {zs : List LV} (hz : VRs ρ zv.toList zs) (h0 : zs.length ≠ 0) (n : Nat) : VRs ρ ((Array.range (n * zs.length)).map (fun i => zv[i % zv.size]!)).toList (rows zs n) := by
  have hsz : zv.size = zs.length := by have := hz.1; simpa using this
  refine ⟨by simp [rows_length],fun i v l' hv hl => ?_⟩
  have hi : i < n * zs.length := by have := lt_of_getElem? hl; rwa [rows_length] at this
  rw [rows_get zs zs.length rfl h0 n i hi] at hl
  have hm : i % zs.length < zs.length := Nat.mod_lt _ (by omega)
  have hv' : v = zv[i % zv.size]! := by
    simp only [Array.toList_map,List.getElem?_map,Array.toList_range,List.getElem?_range hi,Option.map_some,Option.some.injEq] at hv
    exact hv.symm
  obtain ⟨u,hu,hr⟩ := hz.get hl
  have hu' : zv[i % zs.length]? = some u := by simpa using hu
  rw [hv',hsz,getElem!_def,hu']
  exact hr

theorem sim_bslice {t e : TypeId} {len s : Nat} {ps : Array (Nat × Operand)} {z : List LV} {lps : List (Nat × Nat × X)} (ht : P.underlying t = some (.slice e)) (hs : sizeT P e = some s) (hz : zeroT P e = some z) (h0 : s ≠ 0) (hzl : z.length = s) (hzs : z.all LV.single = true) (hlim : len * s ≤ 16777216)
    (hp : preParts (fun i => some (i * s,s)) ps = some lps) (E : ER ρ a env) (R : Rep w0 ρ h w)
    {mt : Bool} (hE : opE cf lo (.bslice mt len s (rows z len) lps) env h = some (l,h')) : Sim P (do pure (.value (← Instr.buildSlice t len (ps.map fun (i,x) => (i,a.eval x))))) w0 ρ w l h' := by
  simp only [opE] at hE
  split at hE
  case h_2 => cases hE
  rename_i out hf
  simp only [Option.some.injEq,Prod.mk.injEq] at hE
  obtain ⟨rfl,rfl⟩ := hE
  obtain ⟨v,hv,hr⟩ := zeroT_vr hz ρ
  have hvs : v.cells.size = s := by have := hr.1; simp at this; omega
  have hm := made_vr hr (by omega) len
  rw [hzl] at hm
  obtain ⟨cs',h1,h2⟩ := run_fill (place := fun i => some (i * s,s)) E ps.toList lps hp _ _ out hm hf
  have hol : cs'.size = len * s := by
    have h3 := h2.1
    have : ∀ (ps : List (Nat × Nat × X)) (ls out : List LV),fillE env ls ps = some out → out.length = ls.length := by
      intro ps
      induction ps with
      | nil => intro ls out hf; simp only [fillE,Option.some.injEq] at hf; rw [hf]
      | cons p ps ih =>
        intro ls out hf
        obtain ⟨o,s,x⟩ := p
        simp only [fillE] at hf
        split at hf
        case isFalse => cases hf
        rename_i hc
        rw [ih _ _ hf]
        simp only [splice,List.length_append,List.length_take,List.length_drop]
        omega
    rw [this _ _ _ hf,rows_length,hzl] at h3
    simpa using h3
  refine ⟨.slice (some ⟨w.heap.size,0,none⟩) len len,w.alloc (.cells cs' e),_,Ext.app _ _,R.alloc' e (fillE_single _ _ _ hf (rows_single z hzs len)) h2,?_,.inl ?_⟩
  · exact VR.slice (n := h.length) (off := 0) (pl := ⟨w.heap.size,0,cs'.size⟩) (by rw [← R.len]; exact List.getElem?_concat_length) (Nat.le_refl _) (by show 0 + len * s ≤ cs'.size; omega) (fun _ => rfl)
  · have hzr := run_zero hv w
    by_cases hl0 : len * s = 0
    · have e0 : (Array.range (len * s)).map (fun i => v.cells[i % v.cells.size]!) = #[] := by rw [hl0]; exact Array.eq_empty_of_size_eq_zero (by simp)
      rw [e0] at h1
      simp only [Instr.buildSlice,Sem.run_bind,run_underlying ht,Result.andThen_ok,run_size hs]
      rw [if_neg (by omega)]
      simp only [hl0,if_true,pure_bind,Sem.run_pure,Result.andThen_ok]
      rw [show (Array.range 0).map (fun x => (#[] : Array Value)[x % (#[] : Array Value).size]!) = #[] from Array.eq_empty_of_size_eq_zero (by simp)]
      rw [show (ps.map fun (x : Nat × Operand) => match x with | (i,x) => (i,a.eval x)).toList = ps.toList.map fun p => (p.1,a.eval p.2) by simp]
      rw [h1]
      simp [newRow]
    · simp only [Instr.buildSlice,Sem.run_bind,run_underlying ht,Result.andThen_ok,run_size hs]
      rw [if_neg (by omega)]
      simp only [hl0,if_false,hzr,Sem.run_bind,Result.andThen_ok,Sem.run_pure]
      rw [show (ps.map fun (x : Nat × Operand) => match x with | (i,x) => (i,a.eval x)).toList = ps.toList.map fun p => (p.1,a.eval p.2) by simp]
      rw [h1]
      simp [newRow]
end
end Lg
/- Operations,the rest: bytes and strings,copy,make,lengths,least and greatest,maps,functions. -/
namespace Lg
open Go Go.RowKit
set_option linter.unusedSimpArgs false
set_option linter.unusedVariables false
section
variable {P : Program} {m : Bool} {w0 : Ini m} {ρ : List Place} {h h' : Heap} {w : World} {a : Act} {env : Env} {cf : CallF} {lo : Nat} {l : LV}

theorem bytesOf_vr : ∀ (vs : List Value) (ls : List LV) (bs : List UInt8),VRs ρ vs ls → bytesOf ls = some bs → ∃ ns : List Int,vs = ns.map (Value.int .u8) ∧ bs = ns.map (fun n => UInt8.ofNat n.toNat)
  | [],[],bs,_,h => by simp only [bytesOf,Option.some.injEq] at h; subst h; exact ⟨[],rfl,rfl⟩
  | [],_ :: _,_,h,_ => by have := h.1; simp at this
  | _ :: _,[],_,h,_ => by have := h.1; simp at this
  | v :: vs,l :: ls,bs,h,hb => by
    have inv : ∃ n,l = .int .u8 n ∧ ∃ bs',bytesOf ls = some bs' ∧ bs = UInt8.ofNat n.toNat :: bs' := by
      unfold bytesOf at hb
      split at hb
      · rename_i e; cases e
      · rename_i n r e
        cases e
        split at hb
        · rename_i bs' hbs; cases hb; exact ⟨n,rfl,bs',hbs,rfl⟩
        · cases hb
      · cases hb
    obtain ⟨n,rfl,bs',hbs,rfl⟩ := inv
    have h1 := h.2 0 v _ rfl rfl
    obtain rfl := h1.int_inv
    obtain ⟨ns,rfl,rfl⟩ := bytesOf_vr vs ls bs' ⟨by have := h.1; simpa using this,fun i u k a b => h.2 (i + 1) u k (by simpa using a) (by simpa using b)⟩ hbs
    exact ⟨n :: ns,rfl,rfl⟩

theorem foldl_push_ints : ∀ (l : List Int) (r : ByteArray),(l.foldl (fun r n => r.push (UInt8.ofNat n.toNat)) r).data.toList = r.data.toList ++ l.map (fun n => UInt8.ofNat n.toNat)
  | [],r => by simp
  | n :: l,r => by
    simp only [List.foldl_cons]
    rw [foldl_push_ints l]
    simp [ByteArray.push]

theorem sim_b2s {s d e : TypeId} {x : Operand} {lx : X} (hs : P.underlying s = some (.slice e)) (he : P.underlying e = some (.int .u8)) (hd : P.underlying d = some .string) (hx : preX x = some lx) (E : ER ρ a env) (R : Rep w0 ρ h w)
    (hE : opE cf lo (.b2s lx) env h = some (l,h')) : Sim P (do pure (.value (← convert s d (a.eval x)))) w0 ρ w l h' := by
  simp only [opE] at hE
  have h1 := preX_vr E hx
  split at hE
  · rename_i hv
    simp only [Option.some.injEq,Prod.mk.injEq] at hE
    obtain ⟨rfl,rfl⟩ := hE
    rw [hv] at h1
    have e1 : a.eval x = .slice none 0 0 := by generalize a.eval x = v at h1; cases h1; rfl
    refine sim_vals (v := .string .empty) R (VR.str .empty) ?_
    rw [e1,run_convert_bytes_string w s d e none 0 0 hs he hd]
    simp [Conv.bytesToString]
  · rename_i n off len es f hv
    split at hE
    · rename_i hl0
      subst hl0
      simp only [Option.some.injEq,Prod.mk.injEq] at hE
      obtain ⟨rfl,rfl⟩ := hE
      rw [hv] at h1
      have e1 : ∃ ad cap,a.eval x = .slice (some ad) 0 cap := by generalize a.eval x = v at h1; cases h1 <;> exact ⟨_,_,rfl⟩
      obtain ⟨ad,cap,e1⟩ := e1
      refine sim_vals (v := .string .empty) R (VR.str .empty) ?_
      rw [e1,run_convert_bytes_string w s d e _ 0 cap hs he hd]
      exact run_bytesToString (P := P) w ad 0 cap [] (by simp [loadCells,loadCellsFrom])
    split at hE
    case isFalse => cases hE
    rename_i hes
    subst hes
    split at hE
    case h_2 => cases hE
    rename_i cs hcs
    split at hE
    case h_2 => cases hE
    rename_i bs hbs
    simp only [Option.some.injEq,Prod.mk.injEq] at hE
    obtain ⟨rfl,rfl⟩ := hE
    rw [hv] at h1
    simp only [cellsOf] at hcs
    split at hcs
    case h_2 => cases hcs
    rename_i rw cs' hb
    split at hcs
    case isFalse => cases hcs
    rename_i hle
    cases hcs
    generalize a.eval x = v at h1
    cases h1 with
    | slice hp hc hx hf =>
      obtain ⟨vs,g1,g2,g3⟩ := R.cells hb hp off (len * 1) hle
      obtain ⟨ns,rfl,rfl⟩ := bytesOf_vr _ _ _ g1 hbs
      have hl := run_loadCells_list (P := P) w _ _ g3
      rw [g2,Nat.mul_one] at hl
      refine sim_vals (v := .string (ns.foldl (fun r n => r.push (UInt8.ofNat n.toNat)) ByteArray.empty)) R ?_ ?_
      · have e1 := foldl_push_ints ns ByteArray.empty
        have := VR.str (ρ := ρ) (ns.foldl (fun r n => r.push (UInt8.ofNat n.toNat)) ByteArray.empty)
        rw [e1] at this
        simpa using this
      · rw [run_convert_bytes_string w s d e _ len _ hs he hd]
        exact run_bytesToString (P := P) w _ len _ ns hl
    | slice0 ad =>
      simp only [Nat.zero_mul,List.take_zero,bytesOf,Option.some.injEq] at hbs
      subst hbs
      refine sim_vals (v := .string .empty) R (VR.str .empty) ?_
      rw [run_convert_bytes_string w s d e _ 0 0 hs he hd]
      exact run_bytesToString (P := P) w ad 0 0 [] (by simp [loadCells,loadCellsFrom])
  · cases hE

theorem frozen?_alloc_out (w : World) (C : Array Value) (t : TypeId) (fl fh j : Nat) (hj : j < fl) : (w.alloc (.cells C t (fl,fh))).frozen? ⟨w.heap.size,j,none⟩ = false := by
  rw [World.frozen?_alloc_mark]
  simp [Nat.not_le.2 hj]

/-- A new row of cells whose mark lies behind it. -/
theorem Rep.allocF {m : Bool} {w0 : Ini m} {ρ : List Place} {h : Heap} {w : World} (R : Rep w0 ρ h w) {cs : List LV} {vs : Array Value} {n fh : Nat} (t : TypeId) (hs : cs.all LV.single = true) (hv : VRs ρ (vs.toList.take n) cs) (hn : n ≤ vs.size) :
    Rep w0 (ρ ++ [⟨w.heap.size,0,vs.size⟩]) (h ++ [.cells true cs]) (w.alloc (.cells vs t (vs.size,fh))) := by
  have hlen : cs.length = n := by have := hv.1; simp at this; omega
  refine R.push ?_ (R.below.alloc R.below.size _) (by simp) (.inl (by simp)) (fun _ => R.below.size) (fun m c pm hc hl hm => Keeps.alloc _ _ _ (R.ltS hc hm)) (fun _ m c pm hc hl hm => (R.fresh_dis (vs.size) hm).span (R.blk m c pm hc hm).span_le) (fun _ m c pm hc hr hm => (R.fresh_dis (vs.size) hm).symm)
  · refine ⟨hs,by simp; omega,fun i l hl => ?_,fun _ i hi => ?_⟩
    · obtain ⟨v,hv1,hv2⟩ := hv.get hl
      refine ⟨v,?_,hv2.mono (Ext.app _ _)⟩
      simp only [Place.at,Nat.zero_add]
      rw [World.cell?_alloc_mark]
      rw [List.getElem?_take] at hv1
      split at hv1
      · simpa using hv1
      · cases hv1
    · simp only [Place.at,Nat.zero_add] at *
      rw [World.cell?_alloc_mark,frozen?_alloc_out _ _ _ _ _ _ hi]
      exact ⟨by rw [Array.getElem?_eq_getElem hi]; rfl,rfl⟩

theorem sim_s2b {s d e : TypeId} {x : Operand} {lx : X} (hs : P.underlying s = some .string) (hd : P.underlying d = some (.slice e)) (he : P.underlying e = some (.int .u8)) (hx : preX x = some lx) (E : ER ρ a env) (R : Rep w0 ρ h w)
    (hE : opE cf lo (.s2b lx) env h = some (l,h')) : Sim P (do pure (.value (← convert s d (a.eval x)))) w0 ρ w l h' := by
  simp only [opE] at hE
  have h1 := preX_vr E hx
  split at hE
  case h_2 => cases hE
  rename_i bs hv
  simp only [Option.some.injEq,Prod.mk.injEq] at hE
  obtain ⟨rfl,rfl⟩ := hE
  rw [hv] at h1
  obtain ⟨b,hb,rfl⟩ := h1.str_inv
  have hge : b.size ≤ grownCap w b.size 0 e := by simp [grownCap,Question.cut]
  have hsz : (bytesRow b (grownCap w b.size 0 e)).size = grownCap w b.size 0 e := by
    simp only [bytesRow,Array.size_append,Array.size_map,Array.size_replicate]
    have : b.data.size = b.size := rfl
    omega
  have hbl : b.data.toList.length = b.size := by simp
  refine ⟨.slice (some ⟨w.heap.size,0,none⟩) b.size (grownCap w b.size 0 e),_,_,Ext.app _ _,R.drew.allocF (n := b.size) (vs := bytesRow b (grownCap w b.size 0 e)) (fh := (bytesRow b (grownCap w b.size 0 e)).size + 1) e ?_ ?_ (by rw [hsz]; exact hge),?_,.inl ?_⟩
  · rw [List.all_eq_true]; intro x hx; obtain ⟨c,_,rfl⟩ := List.mem_map.1 hx; rfl
  · have e1 : (bytesRow b (grownCap w b.size 0 e)).toList.take b.size = b.data.toList.map (fun (c : UInt8) => Value.int .u8 c.toNat) := by
      simp only [bytesRow,Array.toList_append]
      rw [List.take_append_of_le_length (by simp),List.take_of_length_le (by simp)]
      simp
    rw [e1]
    exact bytes_vr ρ _
  · rw [hbl]
    exact VR.slice (n := h.length) (off := 0) (pl := ⟨w.drew.heap.size,0,(bytesRow b (grownCap w b.size 0 e)).size⟩) (by rw [← R.len]; exact List.getElem?_concat_length) hge (by show 0 + grownCap w b.size 0 e * 1 ≤ (bytesRow b (grownCap w b.size 0 e)).size; rw [hsz]; omega) (by simp)
  · rw [hb]
    simp only [Sem.run_bind,run_bytes_of_string w s d e b hs hd he,Result.andThen_ok,Sem.run_pure]

/-! ### lengths -/

theorem sim_lenS {t ty : TypeId} {x : Operand} {lx : X} (ht : P.underlying t = some .string) (hx : preX x = some lx) (E : ER ρ a env) (R : Rep w0 ρ h w)
    (hE : opE cf lo (.lenS lx) env h = some (l,h')) : Sim P (do pure (.value (← Builtin.len_ #[t] ty #[a.eval x]))) w0 ρ w l h' := by
  simp only [opE] at hE
  have h1 := preX_vr E hx
  split at hE
  case h_2 => cases hE
  rename_i s hv
  simp only [Option.some.injEq,Prod.mk.injEq] at hE
  obtain ⟨rfl,rfl⟩ := hE
  rw [hv] at h1
  obtain ⟨b,hb,rfl⟩ := h1.str_inv
  refine sim_vals R (.int _ _) ?_
  rw [hb]
  simp [Builtin.len_,run_underlying ht,goInt]

theorem sim_lenL {t ty e : TypeId} {x : Operand} {lx : X} (ht : P.underlying t = some (.slice e)) (hx : preX x = some lx) (E : ER ρ a env) (R : Rep w0 ρ h w)
    (hE : opE cf lo (.lenL lx) env h = some (l,h')) : Sim P (do pure (.value (← Builtin.len_ #[t] ty #[a.eval x]))) w0 ρ w l h' := by
  simp only [opE] at hE
  have h1 := preX_vr E hx
  split at hE
  · rename_i hv
    simp only [Option.some.injEq,Prod.mk.injEq] at hE
    obtain ⟨rfl,rfl⟩ := hE
    rw [hv] at h1
    generalize a.eval x = v at h1 ⊢
    cases h1
    exact sim_vals R (.int _ _) (by simp [Builtin.len_,run_underlying ht,goInt])
  · rename_i n off len es f hv
    simp only [Option.some.injEq,Prod.mk.injEq] at hE
    obtain ⟨rfl,rfl⟩ := hE
    rw [hv] at h1
    generalize a.eval x = v at h1 ⊢
    cases h1 <;> exact sim_vals R (.int _ _) (by simp [Builtin.len_,run_underlying ht,goInt])
  · cases hE

theorem Rep.map {m : Bool} {w0 : Ini m} {ρ : List Place} {h : Heap} {w : World} (R : Rep w0 ρ h w) {n : Nat} {es : List (LV × LV)} {v : Value} (hn : h[n]? = some (.map es)) (hv : VR ρ v (.map n)) :
    ∃ (pl : Place) (ms : Array MapEntry) (c : Nat),ρ[n]? = some pl ∧ v = .map (some pl.block) ∧ w.heap[pl.block]? = some (.map ms c) ∧ ms.size = es.length ∧ 1 ≤ pl.ext ∧ pl.off = 0 ∧
      ∀ (i : Nat) (m : MapEntry) (e : LV × LV),ms[i]? = some m → es[i]? = some e → VR ρ m.key e.1 ∧ VR ρ m.val e.2 := by
  cases hv with
  | map hp =>
    obtain ⟨h0,h1,ms,c,h2,h3,h4⟩ := R.blk n _ _ hn hp
    exact ⟨_,ms,c,hp,rfl,h2,h3,h0,h1,h4⟩

theorem run_getMap {r : Nat} {ms : Array MapEntry} {c : Nat} (hr : w.heap[r]? = some (.map ms c)) : (getObj r).run P w = .ok (.map ms c) w := by
  simp [getObj,Sem.run,hr]

theorem sim_lenM {t ty k e : TypeId} {x : Operand} {lx : X} (ht : P.underlying t = some (.map k e)) (hx : preX x = some lx) (E : ER ρ a env) (R : Rep w0 ρ h w)
    (hE : opE cf lo (.lenM lx) env h = some (l,h')) : Sim P (do pure (.value (← Builtin.len_ #[t] ty #[a.eval x]))) w0 ρ w l h' := by
  simp only [opE] at hE
  have h1 := preX_vr E hx
  split at hE
  · rename_i hv
    simp only [Option.some.injEq,Prod.mk.injEq] at hE
    obtain ⟨rfl,rfl⟩ := hE
    rw [hv] at h1
    generalize a.eval x = v at h1 ⊢
    cases h1
    exact sim_vals R (.int _ _) (by simp [Builtin.len_,run_underlying ht,goInt])
  · rename_i n hv
    rw [hv] at h1
    split at hE
    case h_2 => cases hE
    rename_i es hn
    simp only [Option.some.injEq,Prod.mk.injEq] at hE
    obtain ⟨rfl,rfl⟩ := hE
    obtain ⟨pl,ms,c,hp,hve,hm,hsz,_⟩ := R.map hn h1
    refine sim_vals R (.int _ _) ?_
    rw [hve]
    simp [Builtin.len_,run_underlying ht,goInt,run_getMap hm,hsz]
  · cases hE

theorem sim_lenC {t ty e : TypeId} {n : Nat} {x : Operand} (ht : P.underlying t = some (.array n e) ∨ ∃ q,P.underlying t = some (.pointer q) ∧ P.underlying q = some (.array n e)) (E : ER ρ a env) (R : Rep w0 ρ h w)
    (hE : opE cf lo (.lenC n) env h = some (l,h')) : Sim P (do pure (.value (← Builtin.len_ #[t] ty #[a.eval x]))) w0 ρ w l h' := by
  simp only [opE,Option.some.injEq,Prod.mk.injEq] at hE
  obtain ⟨rfl,rfl⟩ := hE
  refine sim_vals R (.int _ _) ?_
  rcases ht with ht | ⟨q,hq,ht⟩
  · simp only [Builtin.len_,List.getElem?_toArray,List.getElem?_cons_zero,Sem.run_bind,run_underlying ht,Result.andThen_ok]
    generalize a.eval x = v
    cases v <;> rfl
  · simp only [Builtin.len_,List.getElem?_toArray,List.getElem?_cons_zero,Sem.run_bind,run_underlying hq,Result.andThen_ok]
    generalize a.eval x = v
    cases v <;> simp [run_underlying ht,goInt]

/-! ### the least and the greatest -/

theorem mm_run (mx : Bool) (f : Value → Value → Sem Value) (hf : f = if mx then Builtin.max2 else Builtin.min2) : ∀ (vs : List Value) (ls : List LV) (v : Value) (lv r : LV) (w : World),VR ρ v lv → VRs ρ vs ls → mmE mx lv ls = some r → ∃ u,(vs.foldlM f v).run P w = .ok u w ∧ VR ρ u r
  | [],[],v,lv,r,w,hv,_,h => by simp only [mmE,Option.some.injEq] at h; subst h; exact ⟨v,rfl,hv⟩
  | [],_ :: _,_,_,_,_,_,h,_ => by have := h.1; simp at this
  | _ :: _,[],_,_,_,_,_,h,_ => by have := h.1; simp at this
  | u :: vs,l :: ls,v,lv,r,w,hv,hs,h => by
    have inv : ∃ k a b,lv = .int k a ∧ (∃ k',l = .int k' b) ∧ mmE mx (.int k (if mx then (if b > a then b else a) else (if b < a then b else a))) ls = some r := by
      unfold mmE at h
      split at h
      · rename_i e; cases e
      · rename_i k a k' b r' e; cases e; exact ⟨k,a,b,rfl,⟨k',rfl⟩,h⟩
      · cases h
    obtain ⟨k,x,y,rfl,⟨k',rfl⟩,h2⟩ := inv
    obtain rfl := hv.int_inv
    obtain rfl := (hs.2 0 u _ rfl rfl).int_inv
    obtain ⟨z,hz,hr⟩ := mm_run mx f hf vs ls (.int k (if mx then (if y > x then y else x) else (if y < x then y else x))) _ r w (.int _ _) ⟨by have := hs.1; simpa using this,fun i u k a b => hs.2 (i + 1) u k (by simpa using a) (by simpa using b)⟩ h2
    refine ⟨z,?_,hr⟩
    rw [List.foldlM_cons]
    subst hf
    cases mx
    · simpa [Builtin.min2] using hz
    · simpa [Builtin.max2] using hz

theorem sim_min {ts : Array TypeId} {ty : TypeId} {xs : Array Operand} {lxs : List X} (hx : preXs xs = some lxs) (E : ER ρ a env) (R : Rep w0 ρ h w)
    (hE : opE cf lo (.min2 lxs) env h = some (l,h')) : Sim P (do pure (.value (← Builtin.min_ ts ty (xs.map a.eval)))) w0 ρ w l h' := by
  have h1 := preXs_vr E hx
  simp only [opE] at hE
  split at hE
  case h_2 => cases hE
  rename_i v r hv
  split at hE
  case h_2 => cases hE
  rename_i u hu
  simp only [Option.some.injEq,Prod.mk.injEq] at hE
  obtain ⟨rfl,rfl⟩ := hE
  rw [hv] at h1
  generalize hvs : (xs.map a.eval).toList = vs at h1
  cases vs with
  | nil => have := h1.1; simp at this
  | cons v0 vs =>
    obtain ⟨z,hz,hr⟩ := mm_run (P := P) false Builtin.min2 rfl vs r v0 v u w (h1.2 0 _ _ rfl rfl) ⟨by have := h1.1; simpa using this,fun i u k a b => h1.2 (i + 1) u k (by simpa using a) (by simpa using b)⟩ hu
    refine sim_vals R hr ?_
    simp only [Builtin.min_,hvs]
    exact hz

theorem sim_max {ts : Array TypeId} {ty : TypeId} {xs : Array Operand} {lxs : List X} (hx : preXs xs = some lxs) (E : ER ρ a env) (R : Rep w0 ρ h w)
    (hE : opE cf lo (.max2 lxs) env h = some (l,h')) : Sim P (do pure (.value (← Builtin.max_ ts ty (xs.map a.eval)))) w0 ρ w l h' := by
  have h1 := preXs_vr E hx
  simp only [opE] at hE
  split at hE
  case h_2 => cases hE
  rename_i v r hv
  split at hE
  case h_2 => cases hE
  rename_i u hu
  simp only [Option.some.injEq,Prod.mk.injEq] at hE
  obtain ⟨rfl,rfl⟩ := hE
  rw [hv] at h1
  generalize hvs : (xs.map a.eval).toList = vs at h1
  cases vs with
  | nil => have := h1.1; simp at this
  | cons v0 vs =>
    obtain ⟨z,hz,hr⟩ := mm_run (P := P) true Builtin.max2 rfl vs r v0 v u w (h1.2 0 _ _ rfl rfl) ⟨by have := h1.1; simpa using this,fun i u k a b => h1.2 (i + 1) u k (by simpa using a) (by simpa using b)⟩ hu
    refine sim_vals R hr ?_
    simp only [Builtin.max_,hvs]
    exact hz

/-! ### copy,make -/

theorem sim_copy {t u e ty : TypeId} {es : Nat} {x y : Operand} {lx ly : X} (ht : P.underlying t = some (.slice e)) (hes : sizeT P e = some es) (hx : preX x = some lx) (hy : preX y = some ly) (E : ER ρ a env) (R : Rep w0 ρ h w)
    (hE : opE cf lo (.copy es lx ly) env h = some (l,h')) : Sim P (do pure (.value (← Builtin.copy_ #[t,u] ty #[a.eval x,a.eval y]))) w0 ρ w l h' := by
  have h1 := preX_vr E hx
  have h2 := preX_vr E hy
  simp only [opE] at hE
  split at hE
  case h_2 => cases hE
  rename_i src k hsrc
  obtain ⟨hk,nv,hnv,hnsg,hnl,hnf⟩ := run_src (P := P) h2 hsrc R
  have hns : nv.size = k * es := by have := hnv.1; simp at this; omega
  split at hE
  · rename_i hv
    simp only [Option.some.injEq,Prod.mk.injEq] at hE
    obtain ⟨rfl,rfl⟩ := hE
    rw [hv] at h1
    have e1 : a.eval x = .slice none 0 0 := by generalize a.eval x = v at h1; cases h1; rfl
    refine sim_vals R (.int _ _) ?_
    rw [e1]
    have := hnf 0 (Nat.zero_le _)
    simp [Builtin.copy_,run_underlying ht,hk,run_size hes,this,goInt]
  · rename_i n off len es' f hv
    rw [hv] at h1
    split at hE
    case isFalse => cases hE
    rename_i hes'
    subst hes'
    split at hE
    case h_2 => cases hE
    rename_i rw cs hn
    have hm := hnf (min k len) (Nat.min_le_left _ _)
    split at hE
    · rename_i hm0
      simp only [Option.some.injEq,Prod.mk.injEq] at hE
      obtain ⟨rfl,rfl⟩ := hE
      refine sim_vals R (.int _ _) ?_
      rw [hm0] at hm
      generalize a.eval x = v at h1
      cases h1 with
      | slice hp hc hx hf =>
        have : Nat.min k len = 0 := hm0
        simp [Builtin.copy_,run_underlying ht,hk,run_size hes,this,hm,goInt,storeCells]
      | slice0 ad =>
        have : Nat.min k 0 = 0 := Nat.min_zero _
        simp [Builtin.copy_,run_underlying ht,hk,run_size hes,this,goInt,storeCells]
        have := hnf 0 (Nat.zero_le _)
        simp [this,storeCells]
    · rename_i hm0
      split at hE
      case isFalse => cases hE
      rename_i hc
      obtain ⟨hrw,hlo,hle⟩ := hc
      subst hrw
      simp only [Option.some.injEq,Prod.mk.injEq] at hE
      obtain ⟨rfl,rfl⟩ := hE
      generalize hev : a.eval x = v at h1 ⊢
      cases h1 with
      | slice0 ad => simp at hm0
      | @slice _ _ _ cap _ _ pl hp hc hx hf =>
        have hmk : min k len * es' ≤ k * es' := Nat.mul_le_mul_right _ (Nat.min_le_left _ _)
        have hml : min k len * es' ≤ len * es' := Nat.mul_le_mul_right _ (Nat.min_le_right _ _)
        have htv : VRs ρ (nv.extract 0 (min k len * es')).toList (src.take (min k len * es')) := by
          have := hnv.take (min k len * es')
          simpa [List.extract_eq_take_drop] using this
        have hts : (src.take (min k len * es')).all LV.single = true := by
          rw [List.all_eq_true] at hnsg ⊢
          exact fun x hx => hnsg x (List.mem_of_mem_take hx)
        have htl : (src.take (min k len * es')).length = min k len * es' := by simp; omega
        have hb := (R.blk n _ pl hn hp).2.1
        have hst := run_storeCells_at' (P := P) R hn hp off htv hts (by omega)
        refine ⟨.int .i64 (min k len : Nat),_,ρ,Ext.refl ρ,R.write hn hp off hts htv (by omega),.int _ _,.inl ?_⟩
        have e2 : Nat.min k len = min k len := rfl
        simp only [Builtin.copy_,List.getElem?_toArray,List.getElem?_cons_zero,List.getElem?_cons_succ,Sem.run_bind,run_underlying ht,Result.andThen_ok,hk,run_size hes,e2,hm,hst,Sem.run_pure,goInt]
  · cases hE

theorem sim_make {t e : TypeId} {i : TypeInfo} {z : List LV} {x y : Operand} {lx ly : X} (ht : P.underlying t = some (.slice e)) (hi : P.info? e = some i) (hz : zeroT P e = some z) (hzl : z.length = i.size) (h0 : i.size ≠ 0) (hzs : z.all LV.single = true)
    (hx : preX x = some lx) (hy : preX y = some ly) (E : ER ρ a env) (R : Rep w0 ρ h w)
    {mt : Bool} (hE : opE cf lo (.make mt i.size i.bytes z lx ly) env h = some (l,h')) : Sim P (do pure (.value (← Instr.makeSlice t (a.eval x) (a.eval y)))) w0 ρ w l h' := by
  have h1 := preX_vr E hx
  have h2 := preX_vr E hy
  simp only [opE] at hE
  split at hE
  case h_2 => cases hE
  rename_i n c hvx hvy
  split at hE
  case isFalse => cases hE
  rename_i hc
  obtain ⟨hn0,hnc,hc48,hb⟩ := hc
  subst hnc
  simp only [Option.some.injEq,Prod.mk.injEq] at hE
  obtain ⟨rfl,rfl⟩ := hE
  rw [hvx] at h1; rw [hvy] at h2
  obtain ⟨v,hv,hr⟩ := zeroT_vr hz ρ
  have hz' : i.zero = some v := by rw [hi] at hv; exact hv
  have hm := made_vr hr (by omega) n.toNat
  rw [hzl] at hm
  have hsz : (madeCells v.cells (n.toNat * i.size)).size = n.toNat * i.size := size_madeCells _ _
  refine ⟨.slice (some ⟨w.heap.size,0,none⟩) n.toNat n.toNat,_,_,Ext.app _ _,R.alloc' (vs := madeCells v.cells (n.toNat * i.size)) e (rows_single z hzs _) hm,?_,.inl ?_⟩
  · exact VR.slice (n := h.length) (off := 0) (pl := ⟨w.heap.size,0,(madeCells v.cells (n.toNat * i.size)).size⟩) (by rw [← R.len]; exact List.getElem?_concat_length) (Nat.le_refl _) (by show 0 + n.toNat * i.size ≤ (madeCells v.cells (n.toNat * i.size)).size; omega) (fun _ => rfl)
  · rw [h1.int_inv,h2.int_inv]
    simp only [Sem.run_bind,run_make (P := P) w t e i v ht hi hz' .i64 .i64 n n hn0 (Int.le_refl _) hb (by omega),Result.andThen_ok,Sem.run_pure]

theorem run_append_zero {t u e ty : TypeId} {i : TypeInfo} {z : Value} {k : IntKind} {n : Int} (ht : P.underlying t = some (.slice e)) (hu : P.underlying u = some (.int k)) (hi : P.info? e = some i) (hz : i.zero = some z) (hby : i.bytes ≠ 0) (hs0 : i.size ≠ 0)
    (h0 : 0 < n) (hb : (n.toNat + 512) * i.bytes ≤ 140737488355328) :
    ∃ cap,n.toNat ≤ cap ∧ (Builtin.append_ #[t,u] ty #[.slice none 0 0,.int .i64 n]).run P w =
      .ok (.slice (some ⟨w.heap.size,0,none⟩) n.toNat cap) (w.drew.alloc (.cells (Builtin.zeroCells z.cells n.toNat ++ Builtin.zeroCells z.cells (cap - n.toNat)) e)) := by
  obtain ⟨m,rfl⟩ := Int.eq_ofNat_of_zero_le (show 0 ≤ n by omega)
  simp only [Int.toNat_natCast] at hb ⊢
  refine ⟨grownCap w m 0 e,by simp [grownCap,Question.cut],?_⟩
  have hbm : m * i.bytes ≤ 140737488355328 := Nat.le_trans (Nat.mul_le_mul_right _ (by omega)) hb
  have hm1 : m ≤ m * i.bytes := Nat.le_mul_of_pos_right _ (by omega)
  have hw : IntKind.i64.wrap (m : Int) = m := by simp [IntKind.wrap,IntKind.bits,IntKind.signed]; omega
  have hmul : ¬ (281474976710656 < Builtin.nextslicecap m 0 * i.bytes) := by
    have h1 := nextslicecap_bound (need := m) (old := 0) (by omega)
    have h2 := Nat.mul_le_mul_right i.bytes h1
    have h3 : 2 * (m + 512) * i.bytes = 2 * ((m + 512) * i.bytes) := by rw [Nat.mul_assoc]
    omega
  have hn0 : ¬ (m = 0) := by omega
  have hneg : ¬ ((m : Int) < 0) := by omega
  have hbig : ¬ (281474976710656 < (m : Int) * i.bytes) := by
    have : (m : Int) * i.bytes = ((m * i.bytes : Nat) : Int) := by simp
    rw [this]; omega
  have hmax : ¬ (IntKind.i64.max < (m : Int)) := by simp [IntKind.max,IntKind.bits,IntKind.signed]; omega
  have hms : ¬ (m = 0 ∨ i.size = 0) := by omega
  have hmax2 : ¬ (9223372036854775807 < max (m : Int) 0) := by omega
  have hn1 : ¬ ((m : Int) ≤ 0) := by omega
  have hmax3 : ¬ (9223372036854775807 < m) := by omega
  have hmz : ¬ (m * i.size = 0) := fun h => by rcases Nat.mul_eq_zero.1 h with h | h <;> omega
  have hmax4 : ¬ (9223372036854775807 < (m : Int)) := by omega
  simp [Builtin.append_,run_underlying ht,run_underlying hu,Go.sizeOf,typeInfo,zeroValue,hi,hz,asInt,asIntOf,hw,hmax2,hmax3,hmax4,hmz,hn1,hneg,hbig,hn0,hmax,hmul,hs0,hms,Question.forced,Builtin.firstCells,newRow,grownCap]
theorem sim_appendZ {t u e ty : TypeId} {i : TypeInfo} {k : IntKind} {z : List LV} {x y : Operand} {lx ly : X} (ht : P.underlying t = some (.slice e)) (hu : P.underlying u = some (.int k)) (hi : P.info? e = some i) (hz : zeroT P e = some z) (hby : i.bytes ≠ 0) (hs0 : i.size ≠ 0) (hzl : z.length = i.size) (hzs : z.all LV.single = true)
    (hx : preX x = some lx) (hy : preX y = some ly) (E : ER ρ a env) (R : Rep w0 ρ h w)
    (hE : opE cf lo (.appendZ i.size i.bytes z lx ly) env h = some (l,h')) : Sim P (do pure (.value (← Builtin.append_ #[t,u] ty #[a.eval x,a.eval y]))) w0 ρ w l h' := by
  have h1 := preX_vr E hx
  have h2 := preX_vr E hy
  simp only [opE] at hE
  split at hE
  case h_2 => cases hE
  rename_i n hvx hvy
  split at hE
  case isFalse => cases hE
  rename_i hc
  cases hE
  rw [hvx] at h1; rw [hvy] at h2
  have e1 : a.eval x = .slice none 0 0 := by generalize a.eval x = v at h1; cases h1; rfl
  have e2 : a.eval y = .int .i64 n := h2.int_inv
  obtain ⟨zv,hzv,hr⟩ := zeroT_vr hz ρ
  have hz' : i.zero = some zv := by rw [hi] at hzv; exact hzv
  have hzz : zv.cells.size = i.size := by have := hr.1; simp at this; omega
  obtain ⟨cap,hcap,hrun⟩ := run_append_zero (P := P) (w := w) (ty := ty) ht hu hi hz' hby hs0 hc.1 hc.2
  have hm := made_vr hr (by omega) n.toNat
  have hzc : Builtin.zeroCells zv.cells n.toNat = (Array.range (n.toNat * z.length)).map (fun i => zv.cells[i % zv.cells.size]!) := by unfold Builtin.zeroCells; rw [hzz,hzl]
  rw [← hzc] at hm
  have hsz : (Builtin.zeroCells zv.cells n.toNat).size = n.toNat * i.size := by rw [size_zeroCells',hzz]
  have hsz2 : (Builtin.zeroCells zv.cells n.toNat ++ Builtin.zeroCells zv.cells (cap - n.toNat)).size = cap * i.size := by
    rw [Array.size_append,size_zeroCells',size_zeroCells',hzz,← Nat.add_mul]; congr 1; omega
  refine ⟨.slice (some ⟨w.heap.size,0,none⟩) n.toNat cap,_,_,Ext.app _ _,R.drew.alloc (n := n.toNat * i.size) (vs := Builtin.zeroCells zv.cells n.toNat ++ Builtin.zeroCells zv.cells (cap - n.toNat)) e (rows_single z hzs _) ?_ ?_,?_,.inl ?_⟩
  · rw [Array.toList_append,List.take_append_of_le_length (by rw [Array.length_toList,hsz]; exact Nat.le_refl _),List.take_of_length_le (by rw [Array.length_toList,hsz]; exact Nat.le_refl _)]
    exact hm
  · rw [hsz2]; exact Nat.mul_le_mul_right _ hcap
  · exact VR.slice (n := h.length) (off := 0) (pl := ⟨w.drew.heap.size,0,(Builtin.zeroCells zv.cells n.toNat ++ Builtin.zeroCells zv.cells (cap - n.toNat)).size⟩) (by rw [← R.len]; exact List.getElem?_concat_length) hcap (by show 0 + cap * i.size ≤ (Builtin.zeroCells zv.cells n.toNat ++ Builtin.zeroCells zv.cells (cap - n.toNat)).size; rw [hsz2]; omega) (fun h => by cases h)
  · rw [e1,e2]
    simp only [Sem.run_bind,hrun,Result.andThen_ok,Sem.run_pure]
theorem sim_capL {t e ty : TypeId} {x : Operand} {lx : X} (ht : P.underlying t = some (.slice e)) (hx : preX x = some lx) (E : ER ρ a env) (R : Rep w0 ρ h w)
    (hE : opE cf lo (.capL lx) env h = some (l,h')) : Sim P (do pure (.value (← Builtin.cap_ #[t] ty #[a.eval x]))) w0 ρ w l h' := by
  have h1 := preX_vr E hx
  simp only [opE] at hE
  split at hE
  · rename_i hv
    cases hE
    rw [hv] at h1
    have e1 : a.eval x = .slice none 0 0 := by generalize a.eval x = v at h1; cases h1; rfl
    refine sim_vals R (.int _ _) ?_
    rw [e1]
    simp [Builtin.cap_,run_underlying ht,goInt]
  · rename_i n off len es f hv
    rw [hv] at h1
    split at hE
    case isFalse => cases hE
    rename_i hf
    cases hE
    generalize a.eval x = v at h1
    cases h1 with
    | slice hp hc hx hff =>
      have := hff hf
      subst this
      exact sim_vals R (.int _ _) (by simp [Builtin.cap_,run_underlying ht,goInt])
    | slice0 ad => exact sim_vals R (.int _ _) (by simp [Builtin.cap_,run_underlying ht,goInt])
  · cases hE
theorem sim_clear {t e ty : TypeId} {n : Nat} {z : List LV} {x : Operand} {lx : X} (ht : P.underlying t = some (.slice e)) (hz : zeroT P e = some z) (hzl : z.length = n) (hpos : z.length ≠ 0) (hzs : z.all LV.single = true) (hx : preX x = some lx) (E : ER ρ a env) (R : Rep w0 ρ h w)
    (hE : opE cf lo (.rewr (.clear z) n 0 lx (.c (.func 0 []))) env h = some (l,h')) : Sim P (do pure (.value (← Builtin.clear_ #[t] ty #[a.eval x]))) w0 ρ w l h' := by
  have h1 := preX_vr E hx
  have hev0 : X.ev env (.c (.func 0 [])) = .func 0 [] := rfl
  simp only [opE,hev0,if_true] at hE
  split at hE
  · rename_i hv
    cases hE
    rw [hv] at h1
    have e1 : a.eval x = .slice none 0 0 := by generalize a.eval x = v at h1; cases h1; rfl
    refine sim_vals R (VRs.tup (cs := #[]) (VRs.nil ρ)) ?_
    rw [e1]
    simp [Builtin.clear_,run_underlying ht]
  · rename_i m off len es' f hv
    rw [hv] at h1
    split at hE
    · rename_i hl0
      subst hl0
      cases hE
      refine sim_vals R (VRs.tup (cs := #[]) (VRs.nil ρ)) ?_
      generalize a.eval x = v at h1
      cases h1 with
      | slice hp hc hx hf => simp [Builtin.clear_,run_underlying ht]
      | slice0 ad => simp [Builtin.clear_,run_underlying ht]
    · rename_i hl0
      split at hE
      case isFalse => cases hE
      rename_i hes
      subst hes
      split at hE
      case h_2 => cases hE
      rename_i rw cs hn
      split at hE
      case isFalse => cases hE
      rename_i hc
      obtain ⟨hrw,hlo,hle⟩ := hc
      subst hrw
      simp only [rwE] at hE
      split at hE
      case isFalse => cases hE
      rename_i hout
      cases hE
      generalize hev : a.eval x = v at h1 ⊢
      cases h1 with
      | slice0 ad => exact absurd rfl hl0
      | @slice _ _ _ cap _ _ pl hp hc hx hf =>
        obtain ⟨zv,hzv,hr⟩ := zeroT_vr hz ρ
        obtain ⟨i,hi,hiz⟩ := Option.bind_eq_some_iff.1 hzv
        have hm := made_vr hr hpos len
        have hzz : zv.cells.size = z.length := by have := hr.1; simpa using this
        have hzc : Builtin.zeroCells zv.cells len = (Array.range (len * z.length)).map (fun i => zv.cells[i % zv.cells.size]!) := by unfold Builtin.zeroCells; rw [hzz]
        have hst := run_storeCells_at' (P := P) R hn hp off hm (rows_single z hzs len) (by have := (R.blk m _ pl hn hp).2.1; have := hout.1; omega)
        refine ⟨.tuple #[],_,ρ,Ext.refl ρ,R.write hn hp off (rows_single z hzs len) hm (by have := hout.1; omega),VRs.tup (cs := #[]) (VRs.nil ρ),.inl ?_⟩
        rw [← hzc] at hst
        cases len with
        | zero => exact absurd rfl hl0
        | succ len => simp [Builtin.clear_,run_underlying ht,run_zero hzv,hst]; rw [hzc]; simp
  · cases hE

theorem sim_mkfunc {f : FuncId} {first caps : Array Operand} {lcs : List X} (hf : first.size = 0) (hc : preXs caps = some lcs) (E : ER ρ a env) (R : Rep w0 ρ h w)
    (hE : opE cf lo (.mkfunc f lcs) env h = some (l,h')) : Sim P (do pure (.value (← Instr.makeFunc (.func f) (first.map a.eval) (caps.map a.eval)))) w0 ρ w l h' := by
  simp only [opE,Option.some.injEq,Prod.mk.injEq] at hE
  obtain ⟨rfl,rfl⟩ := hE
  have h1 := preXs_vr E hc
  have e1 : first.map a.eval = #[] := Array.eq_empty_of_size_eq_zero (by simpa using hf)
  refine sim_vals (v := .func (.func f) #[] (caps.map a.eval)) R (.func f _ _ (by have := h1.1; simpa using this) fun i v l hv hl => h1.2 i v l (by simpa using hv) hl) ?_
  rw [e1]; rfl
end
end Lg
