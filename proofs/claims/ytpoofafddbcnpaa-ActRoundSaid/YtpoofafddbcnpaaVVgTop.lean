/- From the machine of values to a call of the model. -/
import Derived.Test.YtpoofafddbcnpaaVLgTop
import Derived.Test.YtpoofafddbcnpaaVVgSimp
namespace Lg
open Go Go.RowKit
/-- What is only read stays. -/
def RoKeep (h h' : Heap) : Prop := ∀ (m : Nat) (cs : List LV),h[m]? = some (.cells false cs) → h'[m]? = some (.cells false cs)
theorem RoKeep.refl (h : Heap) : RoKeep h h := fun _ _ h => h
theorem RoKeep.trans {h1 h2 h3 : Heap} (a : RoKeep h1 h2) (b : RoKeep h2 h3) : RoKeep h1 h3 := fun m cs h => b m cs (a m cs h)
theorem RoKeep.app (h x : Heap) : RoKeep h (h ++ x) := fun m cs hm => by rw [List.getElem?_append_left (lt_of_getElem? hm)]; exact hm
/-- A list of ints that is only read. -/
def RInts (h : Heap) (v : LV) (xs : List Int) : Prop :=
  (v = .nilslice ∧ xs = []) ∨ ∃ n off full cs,v = .slice n off xs.length 1 full ∧ h[n]? = some (.cells false cs) ∧ off + xs.length ≤ cs.length ∧ ∀ (i : Nat) (x : Int),xs[i]? = some x → cs[off + i]? = some (.int .i64 x)
theorem RInts.keep {h h' : Heap} {v : LV} {xs : List Int} (hr : RInts h v xs) (hk : RoKeep h h') : RInts h' v xs := by
  rcases hr with h1 | ⟨n,off,full,cs,rfl,hn,hl,hc⟩
  · exact .inl h1
  · exact .inr ⟨n,off,full,cs,rfl,hk n cs hn,hl,hc⟩
theorem Rep.addRow {w : World} {m : Bool} {ρ : List Place} {h : Heap} (R : Rep (m := m) ⟨w⟩ ρ h w) (hro : ∀ (n : Nat) (b : LBlk),h[n]? = some b → b.rw = false) {a : Option Addr} {len cap : Nat} {zs : List Int}
    (hr : (a = none ∧ len = 0 ∧ cap = 0 ∧ zs = []) ∨ ∃ x,a = some x ∧ len ≤ cap ∧ cap ≤ maxLen ∧ zs.length = cap ∧ (∀ i,i < zs.length → w.cell? (x.add i) = some (.int .i64 (zs.getD i 0))) ∧ ∀ n ∈ zs,(Lit.int .i64 n).wf = true) :
    ∃ ρ' h' lv,Rep (m := m) ⟨w⟩ ρ' h' w ∧ (∀ (n : Nat) (b : LBlk),h'[n]? = some b → b.rw = false) ∧ Ext ρ ρ' ∧ RoKeep h h' ∧ VR ρ' (.slice a len cap) lv ∧ RInts h' lv (zs.take len) := by
  rcases hr with ⟨rfl,rfl,rfl,rfl⟩ | ⟨x,rfl,hle,_,hz,hc,_⟩
  · exact ⟨ρ,h,.nilslice,R,hro,Ext.refl _,RoKeep.refl _,.nilslice,.inl ⟨rfl,rfl⟩⟩
  · obtain ⟨h1,h2⟩ := R.addInts hro hle hz hc
    refine ⟨_,_,_,h1,?_,Ext.app _ _,RoKeep.app _ _,h2,.inr ⟨h.length,0,false,(zs.take len).map (.int .i64),?_,by rw [List.getElem?_concat_length],by simp,fun i y hy => by rw [Nat.zero_add,List.getElem?_map,hy]; rfl⟩⟩
    · intro n b hb
      rcases getElem?_snoc hb with h3 | ⟨_,rfl⟩
      · exact hro n b h3
      · rfl
    · congr 1; rw [List.length_take]; omega
theorem VRs.two {ρ : List Place} {v0 v1 : Value} {l0 l1 : LV} (h0 : VR ρ v0 l0) (h1 : VR ρ v1 l1) : VRs ρ [v0,v1] [l0,l1] := .cons h0 (.cons h1 (.nil ρ))
theorem VRs.one {ρ : List Place} {v0 : Value} {l0 : LV} (h0 : VR ρ v0 l0) : VRs ρ [v0] [l0] := .cons h0 (.nil ρ)
theorem Rep.start_ro : ∀ (n : Nat) (b : LBlk),([] : Heap)[n]? = some b → b.rw = false := fun n b h => by simp at h
end Lg
namespace Vg
open Go Lg Go.RowKit
/-- A list of ints,as a value. -/
def ints (xs : List Int) : VV := .list .s (xs.map fun x => [.int .i64 x])
theorem ints_rv {w : Own} {φ : List Nat} {lh : Heap} {v : LV} {xs : List Int} (h : RInts lh v xs) (hw : ∀ b,w b = none) : RV w φ lh (ints xs) v := by
  rcases h with ⟨rfl,rfl⟩ | ⟨n,off,full,cs,rfl,hn,hl,hc⟩
  · exact .nil _
  · have := RV.list (w := w) (φ := φ) (lh := lh) (m := .s) (rows := xs.map fun x => [VV.int .i64 x]) (b := n) (off := off) (es := 1) (full := full) (hw n) hn (by simpa using hl) (fun h => by cases h)
      (fun row hr => by obtain ⟨x,_,rfl⟩ := List.mem_map.1 hr; exact ⟨rfl,rfl⟩) (fun i row j v l hrow hv hl' => by
        rw [List.getElem?_map] at hrow
        obtain ⟨x,hx,rfl⟩ := Option.map_eq_some_iff.1 hrow
        cases j with
        | succ j => simp at hv
        | zero =>
          simp at hv; subst hv
          have := hc i x hx
          rw [Nat.mul_one,Nat.add_zero] at hl'
          rw [this] at hl'
          cases hl'
          exact .int _ _)
    simpa [ints] using this

/-- A law: the machine of values says true. -/
theorem law_true {m : Bool} {P : Program} {p : VProg} {lp : LProg} (hs : PSound m P lp) (hp : ∀ f,Link (lp f) (p f)) {f : FuncId} {args : List VV} {h1 : VHeap} (hE : callVL p 0 f args [] = some (.bool true,h1))
    {w : World} {ρ : List Lg.Place} {lh : Heap} (R : Rep (m := m) ⟨w⟩ ρ lh w) {vs : Array Value} {largs : List LV} (hv : VRs ρ vs.toList largs) (hr : RVs (fun _ => none) [] lh args largs) :
    Calls P f vs w fun e w' => e = .returned (.bool true) ∧ Below w.heap.size w w' := by
  obtain ⟨K,hK⟩ := callVL_some.1 hE
  have h2 := callV_sim hp K 0 f args [] _ _ hK (fun _ => none) [] largs lh 0 ⟨rfl,Nat.zero_le _,fun n b pb hb => by simp at hb,fun _ _ => rfl⟩ hr
  refine ((callS_ok hs K f largs lh _ h2).2 ⟨w⟩ ρ w vs R hv).mono ?_
  rintro e w' ⟨v,ρ',r,h',rfl,_,hR,hvr,w1,φ1,_,_,_,_,h3,_⟩
  cases h3
  rw [hvr.bool_inv]
  exact ⟨rfl,hR.below.toBelow⟩
end Vg
