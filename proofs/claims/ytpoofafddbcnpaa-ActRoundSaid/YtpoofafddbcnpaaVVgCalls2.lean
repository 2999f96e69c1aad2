/- Calls of the model,one behind another; lists that a call has made and that may be written. -/
import Derived.Test.YtpoofafddbcnpaaVVgCalls
namespace Vg
open Go Lg Go.RowKit
set_option linter.unusedVariables false
set_option linter.unusedSimpArgs false
theorem calls_hs {m : Bool} {P : Program} {p : VProg} {lp : LProg} (hs : PSound m P lp) (hp : ∀ f,Link (lp f) (p f)) {f : FuncId} {args : List VV} {h1 : VHeap} {v : VV} (hE : callVL p 0 f args [] = some (v,h1))
    {w0 : Ini m} {w : World} {ρ : List Lg.Place} {lh : Heap} (R : Rep (m := m) w0 ρ lh w) {vs : Array Value} {largs : List LV} (hv : VRs ρ vs.toList largs) (hr : RVs (fun _ => none) [] lh args largs) :
    Calls P f vs w fun e w' => ∃ x ρ' lh' l o φ,e = .returned x ∧ Ext ρ ρ' ∧ Rep (m := m) w0 ρ' lh' w' ∧ VR ρ' x l ∧ RV o φ lh' v l ∧ HS 0 o φ h1 lh' ∧ Fr (fun _ => none) lh o lh' ∧ Below w0.heap.size w0.toWorld w' := by
  obtain ⟨K,hK⟩ := callVL_some.1 hE
  have h2 := callV_sim hp K 0 f args [] _ _ hK (fun _ => none) [] largs lh 0 ⟨rfl,Nat.zero_le _,fun n b pb hb => by simp at hb,fun _ _ => rfl⟩ hr
  refine ((callS_ok hs K f largs lh _ h2).2 w0 ρ w vs R hv).mono ?_
  rintro e w' ⟨x,ρ',r,h',rfl,hE,hR,hvr,w1,φ1,h3,_,_,h4,h5,_⟩
  exact ⟨x,ρ',h',r,w1,φ1,rfl,hE,hR,hvr,h5,h4,h3,hR.below.toBelow⟩
/-- What names no block means the same whoever owns what. -/
theorem RV.none_of {o : Own} {φ : List Nat} {lh : Heap} {v : VV} {l : LV} (h : RV o φ lh v l) : v.low 0 = true → RV (fun _ => none) [] lh v l := by
  induction h with
  | undef l => exact fun _ => .undef l
  | bool b => exact fun _ => .bool b
  | int k n => exact fun _ => .int k n
  | str s => exact fun _ => .str s
  | ptr h => exact fun h => by simp [VV.low] at h
  | cptr hw hb hl hf hh ih => exact fun _ => .cptr rfl hb hl hf fun i v l hv hl => ih i v l hv hl (lowL_get hf hv)
  | nilptr => exact fun _ => .nilptr
  | nil m => exact fun _ => .nil m
  | list0 m n off es full hm => exact fun _ => .list0 m n off es full hm
  | list hw hb hl hm hr hh ih => exact fun _ => .list rfl hb hl hm hr fun i row j v l hrow hv hl => ih i row j v l hrow hv hl (lowL_get (hr row (List.mem_of_getElem? hrow)).2 hv)
  | hs h => exact fun h => by simp [VV.low] at h
  | map h => exact fun h => by simp [VV.low] at h
  | nilmap => exact fun _ => .nilmap
  | func f cs ls hl hh ih => exact fun h => .func f cs ls hl fun i v l hv hl => ih i v l hv hl (lowL_get (by simpa [VV.low] using h) hv)
  | nilfunc => exact fun _ => .nilfunc
  | iface t h ih => exact fun h => .iface t (ih (by simpa [VV.low] using h))
  | nilif => exact fun _ => .nilif
  | agg cs ls hl hh ih => exact fun h => .agg cs ls hl fun i v l hv hl => ih i v l hv hl (lowL_get (by simpa [VV.low] using h) hv)
  | tup cs ls hl hh ih => exact fun h => .tup cs ls hl fun i v l hv hl => ih i v l hv hl (lowL_get (by simpa [VV.low] using h) hv)
/-- A list that a call has made: its place. -/
theorem hs_place {m : Bool} {w0 : Ini m} {es : Nat} {ρ : List Lg.Place} {lh : Heap} {w : World} {o : Own} {φ : List Nat} {vh : VHeap} {x : Value} {l : LV} {n : Nat} {rows : List (List VV)} (he : 0 < es) (R : Rep w0 ρ lh w) (H : HS 0 o φ vh lh) (hx : VR ρ x l) (hv : RV o φ lh (.hs n 0 rows.length es) l) (hb : vh[n]? = some (.cells true rows.flatten))
    (hr : ∀ row ∈ rows,row.length = es ∧ row.all scal = true) (hne : rows ≠ []) :
    ∃ pb pl lcs cap,φ[n]? = some pb ∧ o pb = some (.blk n) ∧ ρ[pb]? = some pl ∧ lh[pb]? = some (.cells true lcs) ∧ lcs.length = rows.length * es ∧ x = .slice (some (pl.at 0)) rows.length cap ∧ rows.length ≤ cap ∧ cap * es ≤ pl.ext ∧ w0.heap.size ≤ pl.block ∧ pl.block < w.heap.size ∧
      (∀ (i : Nat) (row : List VV) (j : Nat) (v : VV),rows[i]? = some row → row[j]? = some v → w.cell? ⟨pl.block,pl.off + (i * es + j),none⟩ = some (scV v)) ∧ ∀ i,i < pl.ext → w.frozen? ⟨pl.block,pl.off + i,none⟩ = false := by
  have hpos : 0 < rows.length := List.length_pos_iff.2 hne
  generalize ht : VV.hs n 0 rows.length es = t at hv
  cases hv with
  | @hs n' off' len' es' b full hph =>
    cases ht
    have hB := H.blk n _ b hb hph
    obtain ⟨lrw,lcs,h1,h2,h3,h4⟩ := hB
    rw [if_pos ⟨rfl,Nat.zero_le _⟩] at h4
    obtain ⟨rfl,h5, -⟩ := h4
    generalize hn : rows.length = q at *
    cases hx with
    | slice h hc hx hf =>
      rename_i cap pl
      have hcp : 0 < cap * es := Nat.mul_pos (by omega) he
      have hlt : pl.block < w.heap.size := by
        rcases R.lt _ _ h with h6 | h6
        · exact h6
        · omega
      obtain ⟨_,_,hcell,hfz⟩ := R.blk _ _ _ h1 h
      have hsz := flat_size fun row hrow => (hr row hrow).1
      have hll : lcs.length = rows.flatten.length := h2.1.symm
      refine ⟨b,pl,lcs,cap,hph,h5,h,h1,by rw [hll,hsz,hn],rfl,hc,by omega,R.own _ _ _ h1 rfl h,hlt,fun i row j v hi hj => ?_,fun i hi => (hfz rfl i hi).2⟩
      have hfl := flat_put (fun row hrow => (hr row hrow).1) hi hj
      have hlt2 : i * es + j < lcs.length := by rw [hll]; exact (List.getElem?_eq_some_iff.1 hfl).1
      obtain ⟨lc,hlc⟩ : ∃ lc,lcs[i * es + j]? = some lc := ⟨_,List.getElem?_eq_getElem hlt2⟩
      obtain ⟨y,hy1,hy2⟩ := hcell _ _ hlc
      have hrow := hr row (List.mem_of_getElem? hi)
      have := sc_val (h2.2 _ _ _ hfl hlc) hy2 (List.all_eq_true.1 hrow.2 v (List.mem_of_getElem? hj))
      rw [← this,← hy1]
      rfl
    | slice0 a off es full h => omega
  | _ => cases ht
end Vg
