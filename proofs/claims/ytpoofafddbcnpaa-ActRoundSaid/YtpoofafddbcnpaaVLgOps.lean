/- Each operation of the model does what the logical one does. -/
import Derived.Test.YtpoofafddbcnpaaVLgRep
import Derived.Laws.Entries
namespace Lg
open Go Go.RowKit
set_option linter.unusedSimpArgs false
set_option linter.unusedVariables false

/-- The frame stands for the environment. -/
def ER (ρ : List Place) (a : Act) (env : Env) : Prop := VRs ρ a.tmps.toList env

theorem ER.mono {ρ ρ' : List Place} (he : Ext ρ ρ') {a : Act} {env : Env} (h : ER ρ a env) : ER ρ' a env := VRs.mono he h

theorem ER.get {ρ : List Place} {a : Act} {env : Env} (h : ER ρ a env) (t : Nat) : VR ρ (a.tmps.getD t undef) (env.getD t .undef) := by
  rcases Nat.lt_or_ge t env.length with ht | ht
  · obtain ⟨v,hv,hr⟩ := VRs.get h (List.getElem?_eq_getElem ht)
    have e1 : a.tmps[t]? = some v := by simpa using hv
    rw [Array.getD_eq_getD_getElem?,e1,List.getD_eq_getElem?_getD,List.getElem?_eq_getElem ht]
    exact hr
  · rw [List.getD_eq_getElem?_getD,List.getElem?_eq_none ht]; exact .undef _

theorem ER.put {ρ : List Place} {a : Act} {env : Env} (h : ER ρ a env) {v : Value} {l : LV} (hv : VR ρ v l) (d : Option Tmp) : ER ρ (a.put d v) (putE env d l) := by
  cases d with
  | none => exact h
  | some d =>
    show VRs ρ (a.tmps.setIfInBounds d v).toList (env.set d l)
    rw [Array.toList_setIfInBounds]
    exact VRs.set h hv d

theorem mapM_vr (ρ : List Place) (f : Value → Option LV) : ∀ (vs : List Value) (ls : List LV),(∀ v ∈ vs,∀ l,f v = some l → VR ρ v l) → vs.mapM f = some ls → VRs ρ vs ls
  | [],ls,_,h => by simp at h; subst h; exact .nil ρ
  | v :: vs,ls,hf,h => by
    rw [List.mapM_cons] at h
    simp only [Option.bind_eq_bind,Option.bind_eq_some_iff,Option.pure_def,Option.some.injEq] at h
    obtain ⟨l,hl,ls',hls,rfl⟩ := h
    exact .cons (hf v (by simp) l hl) (mapM_vr ρ f vs ls' (fun u hu => hf u (by simp [hu])) hls)

theorem ofValueN_vr (ρ : List Place) : ∀ (d : Nat) (v : Value) (l : LV),ofValueN d v = some l → VR ρ v l
  | 0,_,_,h => by simp [ofValueN] at h
  | d + 1,v,l,h => by
    unfold ofValueN at h
    split at h
    · cases h; constructor
    · cases h; constructor
    · cases h; constructor
    · cases h; constructor
    · cases h; constructor
    · cases h; constructor
    · cases h; constructor
    · cases h; constructor
    · split at h
      · rename_i hm; cases h
        exact VRs.agg (mapM_vr ρ _ _ _ (fun v _ l hl => ofValueN_vr ρ d v l hl) hm)
      · cases h
    · split at h
      · rename_i hm; cases h
        exact VRs.tup (mapM_vr ρ _ _ _ (fun v _ l hl => ofValueN_vr ρ d v l hl) hm)
      · cases h
    · cases h

theorem ofValue_vr (ρ : List Place) {v : Value} {l : LV} (h : ofValue v = some l) : VR ρ v l := ofValueN_vr ρ 3 v l h

theorem preX_vr {ρ : List Place} {a : Act} {env : Env} (h : ER ρ a env) {x : Operand} {lx : X} (hx : preX x = some lx) : VR ρ (a.eval x) (lx.ev env) := by
  cases x with
  | tmp t => simp only [preX,Option.some.injEq] at hx; subst hx; exact h.get t
  | const v =>
    simp only [preX,Option.map_eq_some_iff] at hx
    obtain ⟨l,hl,rfl⟩ := hx
    exact ofValue_vr ρ hl
  | func f => simp only [preX,Option.some.injEq] at hx; subst hx; exact .func f #[] [] rfl (fun i v l hv => by simp at hv)
  | global g => simp [preX] at hx

theorem preXs_vr' {ρ : List Place} {a : Act} {env : Env} (h : ER ρ a env) : ∀ (xs : List Operand) (ls : List X),xs.mapM preX = some ls → VRs ρ (xs.map a.eval) (ls.map (X.ev env))
  | [],ls,hx => by simp at hx; subst hx; exact .nil ρ
  | x :: xs,ls,hx => by
    rw [List.mapM_cons] at hx
    simp only [Option.bind_eq_bind,Option.bind_eq_some_iff,Option.pure_def,Option.some.injEq] at hx
    obtain ⟨l,hl,ls',hls,rfl⟩ := hx
    exact .cons (preX_vr h hl) (preXs_vr' h xs ls' hls)

theorem preXs_vr {ρ : List Place} {a : Act} {env : Env} (h : ER ρ a env) {xs : Array Operand} {ls : List X} (hx : preXs xs = some ls) : VRs ρ (xs.map a.eval).toList (ls.map (X.ev env)) := by
  have := preXs_vr' h xs.toList ls hx
  simpa using this

/-- What an operation comes to: a value that stands for the logical one,in a world that stands for the logical heap. -/
def Sim {m : Bool} (P : Program) (s : Sem Next) (w0 : Ini m) (ρ : List Place) (w : World) (l : LV) (h' : Heap) : Prop :=
  ∃ (v : Value) (w' : World) (ρ' : List Place),Ext ρ ρ' ∧ Rep w0 ρ' h' w' ∧ VR ρ' v l ∧ (s.run P w = .ok (.value v) w' ∨ (s.run P w = .ok .skip w' ∧ v = undef))

section
variable {P : Program} {m : Bool} {w0 : Ini m} {ρ : List Place} {h h' : Heap} {w : World} {a : Act} {env : Env} {cf : CallF} {lo : Nat} {l : LV}

theorem Sim.val {s : Sem Next} {v : Value} (R : Rep w0 ρ h w) (hv : VR ρ v l) (hs : s.run P w = .ok (.value v) w) : Sim P s w0 ρ w l h :=
  ⟨v,w,ρ,Ext.refl ρ,R,hv,.inl hs⟩

theorem sim_vals {s : Sem Value} {v : Value} (R : Rep w0 ρ h w) (hv : VR ρ v l) (hs : s.run P w = .ok v w) : Sim P (do pure (.value (← s))) w0 ρ w l h :=
  Sim.val R hv (by simp [hs])

theorem VR.bool_inv {v : Value} {b : Bool} (h : VR ρ v (.bool b)) : v = .bool b := by cases h; rfl
theorem VR.int_inv {v : Value} {k : IntKind} {n : Int} (h : VR ρ v (.int k n)) : v = .int k n := by cases h; rfl
theorem VR.str_inv {v : Value} {s : List UInt8} (h : VR ρ v (.str s)) : ∃ b : ByteArray,v = .string b ∧ b.data.toList = s := by cases h; exact ⟨_,rfl,rfl⟩
theorem VR.ptr_inv {v : Value} {n off : Nat} (h : VR ρ v (.ptr n off)) : ∃ pl,ρ[n]? = some pl ∧ v = .pointer (some (pl.at off)) := by cases h; exact ⟨_,‹_›,rfl⟩
theorem VR.agg_inv {v : Value} {ls : List LV} (h : VR ρ v (.agg ls)) : ∃ cs : Array Value,v = .agg cs ∧ VRs ρ cs.toList ls := by
  cases h; exact ⟨_,rfl,VRs.of_agg ‹_› ‹_›⟩
theorem VR.tup_inv {v : Value} {ls : List LV} (h : VR ρ v (.tup ls)) : ∃ cs : Array Value,v = .tuple cs ∧ VRs ρ cs.toList ls := by
  cases h; exact ⟨_,rfl,VRs.of_agg ‹_› ‹_›⟩

theorem run_ty {t : TypeId} {i : TypeInfo} (h : P.info? t = some i) (w : World) : (typeInfo t).run P w = .ok i w := by
  simp [typeInfo,h]
theorem run_size {t : TypeId} {n : Nat} (h : sizeT P t = some n) (w : World) : (Go.sizeOf t).run P w = .ok n w := by
  unfold sizeT at h
  rw [Option.map_eq_some_iff] at h
  obtain ⟨i,hi,rfl⟩ := h
  simp [Go.sizeOf,run_ty hi]
theorem run_isAgg {t : TypeId} {g : Bool} (h : isAggT P t = some g) (w : World) : (isAgg t).run P w = .ok g w := by
  unfold isAggT at h
  split at h
  · cases h; rename_i hu; simp [isAgg,run_underlying hu]
  · cases h; rename_i hu; simp [isAgg,run_underlying hu]
  · rename_i d hn1 hn2 hu; cases h
    simp only [isAgg,Sem.run_bind,run_underlying hu,Result.andThen_ok]
    rfl
  · cases h

/-! ### move,pick -/

theorem sim_move {x : Operand} {lx : X} (hx : preX x = some lx) (E : ER ρ a env) (R : Rep w0 ρ h w) {m : Bool} (hE : opE cf lo (.mv m lx) env h = some (l,h')) :
    Sim P (pure (.value (a.eval x))) w0 ρ w l h' := by
  simp only [opE,Option.some.injEq,Prod.mk.injEq] at hE
  obtain ⟨rfl,rfl⟩ := hE
  exact Sim.val R (preX_vr E hx) rfl

theorem sim_pick {c x y : Operand} {lc lx ly : X} (hc : preX c = some lc) (hx : preX x = some lx) (hy : preX y = some ly) (E : ER ρ a env) (R : Rep w0 ρ h w)
    (hE : opE cf lo (.pick lc lx ly) env h = some (l,h')) : Sim P (do pure (.value (if ← asBool (a.eval c) then a.eval x else a.eval y))) w0 ρ w l h' := by
  simp only [opE] at hE
  have h1 := preX_vr E hc
  split at hE
  · rename_i t ht
    rw [ht] at h1
    simp only [Option.some.injEq,Prod.mk.injEq] at hE
    obtain ⟨rfl,rfl⟩ := hE
    refine Sim.val (v := if t then a.eval x else a.eval y) R ?_ ?_
    · cases t
      · exact preX_vr E hy
      · exact preX_vr E hx
    · rw [h1.bool_inv]; rfl
  · cases hE

/-! ### the heap -/

theorem zeroT_vr {t : TypeId} {z : List LV} (hz : zeroT P t = some z) (ρ : List Place) : ∃ v : Value,((P.info? t).bind (·.zero)) = some v ∧ VRs ρ v.cells.toList z := by
  unfold zeroT at hz
  split at hz
  · rename_i y hy
    cases hz
    rw [Option.bind_eq_some_iff] at hy
    obtain ⟨v,hv,ho⟩ := hy
    refine ⟨v,hv,(ofValue_vr ρ ho).cells ?_⟩
    rintro rfl
    unfold ofValue ofValueN at ho
    (repeat' split at ho) <;> simp_all
  · cases hz

theorem run_zero {t : TypeId} {v : Value} (h : ((P.info? t).bind (·.zero)) = some v) (w : World) : (zeroValue t).run P w = .ok v w := by
  rw [Option.bind_eq_some_iff] at h
  obtain ⟨i,hi,hz⟩ := h
  simp [zeroValue,run_ty hi,hz]

theorem sim_alloc {e : TypeId} {z : List LV} (hz : zeroT P e = some z) (hzs : z.all LV.single = true) (E : ER ρ a env) (R : Rep w0 ρ h w)
    (hE : opE cf lo (.alloc z) env h = some (l,h')) : Sim P (do pure (.value (← Instr.alloc e true (.tuple #[])))) w0 ρ w l h' := by
  simp only [opE,Option.some.injEq,Prod.mk.injEq] at hE
  obtain ⟨rfl,rfl⟩ := hE
  obtain ⟨v,hv,hr⟩ := zeroT_vr hz ρ
  refine ⟨.pointer (some ⟨w.heap.size,0,none⟩),w.alloc (.cells v.cells e),_,Ext.app _ _,R.alloc' e hzs hr,?_,.inl ?_⟩
  · exact VR.ptr (n := h.length) (off := 0) (pl := ⟨w.heap.size,0,v.cells.size⟩) (by rw [← R.len]; simp)
  · simp [Instr.alloc,run_zero hv,newVar,newRow]

theorem sim_box {t : TypeId} {x : Operand} {lx : X} (hx : preX x = some lx) (E : ER ρ a env) (R : Rep w0 ρ h w)
    (hE : opE cf lo (.box lx) env h = some (l,h')) : Sim P (do pure (.value (← Instr.box t (a.eval x)))) w0 ρ w l h' := by
  simp only [opE] at hE
  split at hE
  · rename_i hs
    simp only [Option.some.injEq,Prod.mk.injEq] at hE
    obtain ⟨rfl,rfl⟩ := hE
    have hu : lx.ev env ≠ .undef := fun e => by rw [e] at hs; simp [LV.cells,LV.single] at hs
    have hr := (preX_vr E hx).cells hu
    refine ⟨.pointer (some ⟨w.heap.size,0,none⟩),w.alloc (.cells (a.eval x).cells t),_,Ext.app _ _,R.alloc' t hs hr,?_,.inl ?_⟩
    · exact VR.ptr (n := h.length) (off := 0) (pl := ⟨w.heap.size,0,(a.eval x).cells.size⟩) (by rw [← R.len]; simp)
    · simp [Instr.box,newVar,newRow]
  · cases hE

theorem run_loadVar_at {t : TypeId} {g : Bool} {n : Nat} (hg : isAggT P t = some g) (hn : sizeT P t = some n) {b off : Nat} {rw : Bool} {cs : List LV} {pl : Place}
    (R : Rep w0 ρ h w) (hb : h[b]? = some (.cells rw cs)) (hp : ρ[b]? = some pl) {v : LV}
    (hv : (if g then (if off + n ≤ cs.length then some (LV.agg ((cs.drop off).take n)) else none) else cs[off]?) = some v) :
    ∃ u,(loadVar t (pl.at off)).run P w = .ok u w ∧ VR ρ u v := by
  cases g with
  | true =>
    simp only [if_true] at hv
    split at hv
    · rename_i hl
      cases hv
      obtain ⟨vs,h1,h2,h3⟩ := R.cells hb hp off n hl
      refine ⟨.agg vs.toArray,?_,VRs.agg (by simpa using h1)⟩
      have := run_loadCells_list (P := P) w (pl.at off) vs h3
      rw [h2] at this
      simp [loadVar,run_isAgg hg,run_size hn,this]
    · cases hv
  | false =>
    simp only [Bool.false_eq_true,if_false] at hv
    obtain ⟨_,h1,h2,h3⟩ := R.blk b _ pl hb hp
    obtain ⟨u,hu,hr⟩ := h2 off v hv
    exact ⟨u,by simp [loadVar,run_isAgg hg,hu],hr⟩

theorem sim_load {t : TypeId} {x : Operand} {lx : X} {g : Bool} {n : Nat} (hg : isAggT P t = some g) (hn : sizeT P t = some n) (hx : preX x = some lx) (E : ER ρ a env) (R : Rep w0 ρ h w)
    {m : Bool} (hE : opE cf lo (.load m g n lx) env h = some (l,h')) : Sim P (do pure (.value (← Instr.loadAt t (a.eval x)))) w0 ρ w l h' := by
  simp only [opE] at hE
  have h1 := preX_vr E hx
  split at hE
  case h_2 => cases hE
  rename_i b off hbo
  rw [hbo] at h1
  obtain ⟨pl,hp,he⟩ := h1.ptr_inv
  split at hE
  case h_2 => cases hE
  rename_i rw cs hb
  have key : (if g then (if off + n ≤ cs.length then some (LV.agg ((cs.drop off).take n)) else none) else cs[off]?) = some l ∧ h = h' := by
    cases g
    · simp only [Bool.false_eq_true,if_false] at hE ⊢
      split at hE
      · rename_i v hv; cases hE; exact ⟨hv,rfl⟩
      · cases hE
    · simp only [if_true] at hE ⊢
      split at hE
      · cases hE; exact ⟨by rw [if_pos ‹_›],rfl⟩
      · cases hE
  obtain ⟨hv,rfl⟩ := key
  obtain ⟨u,hu,hr⟩ := run_loadVar_at hg hn R hb hp hv
  refine sim_vals R hr ?_
  simp [Instr.loadAt,he,Instr.sureAddr,hu]

theorem all_oneCell {vs : List Value} {ls : List LV} (h : VRs ρ vs ls) (hs : ls.all LV.single = true) : ∀ v ∈ vs,v.oneCell' = true := by
  intro v hv
  obtain ⟨i,hi⟩ := List.mem_iff_getElem?.1 hv
  have hl : i < ls.length := by rw [← h.1]; exact lt_of_getElem? hi
  exact (h.2 i v _ hi (List.getElem?_eq_getElem hl)).single_oneCell (List.all_eq_true.1 hs _ (List.getElem_mem hl))

theorem run_storeCells_at' {n : Nat} {cs : List LV} {pl : Place} (R : Rep w0 ρ h w) (hn : h[n]? = some (.cells true cs)) (hp : ρ[n]? = some pl) (off : Nat) {ls : List LV} {vs : List Value}
    (hv : VRs ρ vs ls) (hs : ls.all LV.single = true) (hk : off + ls.length ≤ pl.ext) : (storeCells (pl.at off) vs).run P w = .ok () (w.setCells pl.block (pl.off + off) vs) := by
  obtain ⟨_,h1,h2,h3⟩ := R.blk n _ pl hn hp
  have hvl := hv.1
  refine run_storeCells_cells pl.block (pl.off + off) vs 0 w (fun j hj => ?_) (fun j hj => ?_) (all_oneCell hv hs)
  · have := (h3 rfl (off + j) (by omega)).1; simpa [Place.at,Nat.add_assoc] using this
  · have := (h3 rfl (off + j) (by omega)).2; simpa [Place.at,Nat.add_assoc] using this

theorem sim_store {t : TypeId} {x y : Operand} {lx ly : X} {n : Nat} (hn : sizeT P t = some n) (hx : preX x = some lx) (hy : preX y = some ly) (E : ER ρ a env) (R : Rep w0 ρ h w)
    (hE : opE cf lo (.store n lx ly) env h = some (l,h')) : Sim P (do Instr.storeAt t (a.eval x) (a.eval y); pure .skip) w0 ρ w l h' := by
  simp only [opE] at hE
  have h1 := preX_vr E hx
  have h2 := preX_vr E hy
  split at hE
  case h_2 => cases hE
  rename_i b off hbo
  rw [hbo] at h1
  obtain ⟨pl,hp,he⟩ := h1.ptr_inv
  split at hE
  case h_2 => cases hE
  rename_i rw cs hb
  split at hE
  case isFalse => cases hE
  rename_i hc
  obtain ⟨hrw,hlo,hlen,hk,hs⟩ := hc
  subst hrw
  simp only [Option.some.injEq,Prod.mk.injEq] at hE
  obtain ⟨rfl,rfl⟩ := hE
  have hu : ly.ev env ≠ .undef := fun e => by rw [e] at hs; simp [LV.cells,LV.single] at hs
  have hr := h2.cells hu
  have hrun := run_storeCells_at' (P := P) R hb hp off hr hs (by have := (R.blk b _ pl hb hp).2.1; omega)
  refine ⟨undef,_,ρ,Ext.refl ρ,R.write hb hp off hs hr (by omega),VRs.tup (VRs.nil ρ),.inr ⟨?_,rfl⟩⟩
  have hsz : (a.eval y).cells.size = n := by rw [← hlen]; have := hr.1; simpa using this
  simp [Instr.storeAt,he,Instr.sureAddr,storeVar,run_size hn,hsz,hrun]

theorem sim_nilchk {x : Operand} {lx : X} (hx : preX x = some lx) (E : ER ρ a env) (R : Rep w0 ρ h w) {o : Oper} (ho : o.op = .nilCheck x)
    (hE : opE cf lo (.nilchk lx) env h = some (l,h')) : Sim P (execOp a.eval o) w0 ρ w l h' := by
  simp only [opE] at hE
  have h1 := preX_vr E hx
  simp only [execOp,ho]
  split at hE
  · rename_i b off hbo
    simp only [Option.some.injEq,Prod.mk.injEq] at hE
    obtain ⟨rfl,rfl⟩ := hE
    rw [hbo] at h1
    obtain ⟨pl,hp,he⟩ := h1.ptr_inv
    rw [he] at h1
    exact Sim.val R h1 (by rw [he]; rfl)
  · rename_i f caps hf
    simp only [Option.some.injEq,Prod.mk.injEq] at hE
    obtain ⟨rfl,rfl⟩ := hE
    rw [hf] at h1
    generalize a.eval x = v at h1
    cases h1 with
    | func f cs ls hl hh => exact Sim.val R (.func f cs caps hl hh) rfl
  · cases hE
end
end Lg
