/- From the machine of values to a call of the model,whatever it answers; lists of rows of scalars in the world. -/
import Derived.Test.YtpoofafddbcnpaaVVgTop
import Derived.Test.YtpoofafddbcnpaaVLgExt
namespace Vg
open Go Lg Go.RowKit
set_option linter.unusedVariables false
theorem calls_any {m : Bool} {P : Program} {p : VProg} {lp : LProg} (hs : PSound m P lp) (hp : ∀ f,Link (lp f) (p f)) {f : FuncId} {args : List VV} {h1 : VHeap} {v : VV} (hE : callVL p 0 f args [] = some (v,h1))
    {w : World} {ρ : List Lg.Place} {lh : Heap} (R : Rep (m := m) ⟨w⟩ ρ lh w) {vs : Array Value} {largs : List LV} (hv : VRs ρ vs.toList largs) (hr : RVs (fun _ => none) [] lh args largs) :
    Calls P f vs w fun e w' => ∃ x ρ' lh' l o φ,e = .returned x ∧ Rep (m := m) ⟨w⟩ ρ' lh' w' ∧ VR ρ' x l ∧ RV o φ lh' v l ∧ Below w.heap.size w w' := by
  obtain ⟨K,hK⟩ := callVL_some.1 hE
  have h2 := callV_sim hp K 0 f args [] _ _ hK (fun _ => none) [] largs lh 0 ⟨rfl,Nat.zero_le _,fun n b pb hb => by simp at hb,fun _ _ => rfl⟩ hr
  refine ((callS_ok hs K f largs lh _ h2).2 ⟨w⟩ ρ w vs R hv).mono ?_
  rintro e w' ⟨x,ρ',r,h',rfl,_,hR,hvr,w1,φ1,_,_,_,_,h3,_⟩
  exact ⟨x,ρ',h',r,w1,φ1,rfl,hR,hvr,h3,hR.below.toBelow⟩
/-- A scalar,as the model's value. -/
def scV : VV → Value
  | .int k n => .int k n
  | .bool b => .bool b
  | .str s => .string ⟨s.toArray⟩
  | _ => .nilIface
theorem sc_val {o : Own} {φ : List Nat} {lh : Heap} {ρ : List Lg.Place} {v : VV} {l : LV} {x : Value} (h : RV o φ lh v l) (hx : VR ρ x l) (hs : scal v = true) : x = scV v := by
  cases h <;> first | (cases hs; done) | skip
  · cases hx; rfl
  · cases hx; rfl
  · obtain ⟨b,rfl,hb⟩ := vr_str hx
    simp only [scV]
    congr 1
    cases b with
    | mk d => congr 1; rw [← hb]
theorem sc_vr {ρ : List Lg.Place} {v : VV} (hs : scal v = true) : VR ρ (scV v) v.sc := by
  cases v <;> first | (cases hs; done) | skip
  · exact .bool _
  · exact .int _ _
  · rename_i s
    have := VR.str (ρ := ρ) ⟨s.toArray⟩
    rw [bytes_back] at this
    exact this
theorem sc_rv {o : Own} {φ : List Nat} {lh : Heap} {v : VV} (hs : scal v = true) : RV o φ lh v v.sc := by
  cases v <;> first | (cases hs; done) | skip
  · exact .bool _
  · exact .int _ _
  · exact .str _
theorem flat_put {α : Type} {es : Nat} : ∀ {rows : List (List α)},(∀ row ∈ rows,row.length = es) → ∀ {i j : Nat} {row : List α} {v : α},rows[i]? = some row → row[j]? = some v → rows.flatten[i * es + j]? = some v
  | [],_,i,j,row,v,hi,_ => by simp at hi
  | r :: rows,h,0,j,row,v,hi,hj => by
    simp only [List.getElem?_cons_zero,Option.some.injEq] at hi
    subst hi
    rw [Nat.zero_mul,Nat.zero_add,List.flatten_cons,List.getElem?_append_left (by exact (List.getElem?_eq_some_iff.1 hj).1)]
    exact hj
  | r :: rows,h,i + 1,j,row,v,hi,hj => by
    have hr := h r (List.mem_cons_self ..)
    rw [List.getElem?_cons_succ] at hi
    have := flat_put (rows := rows) (fun x hx => h x (List.mem_cons_of_mem _ hx)) hi hj
    rw [List.flatten_cons,List.getElem?_append_right (by rw [hr,Nat.succ_mul]; omega),hr,Nat.succ_mul,show i * es + es + j - es = i * es + j by omega]
    exact this
theorem flat_at {α : Type} {es : Nat} : ∀ {rows : List (List α)},(∀ row ∈ rows,row.length = es) → ∀ {k : Nat} {v : α},rows.flatten[k]? = some v → ∃ i j row,k = i * es + j ∧ rows[i]? = some row ∧ row[j]? = some v
  | [],_,k,v,hk => by simp at hk
  | r :: rows,h,k,v,hk => by
    have hr := h r (List.mem_cons_self ..)
    rw [List.flatten_cons] at hk
    by_cases hlt : k < r.length
    · rw [List.getElem?_append_left hlt] at hk
      exact ⟨0,k,r,by omega,rfl,hk⟩
    · rw [List.getElem?_append_right (by omega)] at hk
      obtain ⟨i,j,row,e,h1,h2⟩ := flat_at (rows := rows) (fun x hx => h x (List.mem_cons_of_mem _ hx)) hk
      exact ⟨i + 1,j,row,by rw [Nat.succ_mul]; omega,h1,h2⟩
theorem flat_size {α : Type} {es : Nat} : ∀ {rows : List (List α)},(∀ row ∈ rows,row.length = es) → rows.flatten.length = rows.length * es
  | [],_ => by simp
  | r :: rows,h => by
    rw [List.flatten_cons,List.length_append,flat_size fun x hx => h x (List.mem_cons_of_mem _ hx),h r (List.mem_cons_self ..),List.length_cons,Nat.succ_mul]; omega
/-- A slice of rows of scalars,in the world. -/
def WRows (es : Nat) (w : World) (x : Value) (rows : List (List VV)) : Prop :=
  (rows = [] ∧ (x = .slice none 0 0 ∨ (∃ a,x = .slice (some a) 0 0) ∨ ∃ b off cap,x = .slice (some ⟨b,off,none⟩) 0 cap)) ∨
  ∃ b off cap,x = .slice (some ⟨b,off,none⟩) rows.length cap ∧ rows.length ≤ cap ∧ b < w.heap.size ∧ ∀ (i : Nat) (row : List VV) (j : Nat) (v : VV),rows[i]? = some row → row[j]? = some v → w.cell? ⟨b,off + i * es + j,none⟩ = some (scV v)
theorem WRows.mono {es : Nat} {w w' : World} {x : Value} {rows : List (List VV)} (h : WRows es w x rows) (hb : Below w.heap.size w w') : WRows es w' x rows := by
  rcases h with h | ⟨b,off,cap,h1,h2,h3,h4⟩
  · exact .inl h
  · exact .inr ⟨b,off,cap,h1,h2,Nat.lt_of_lt_of_le h3 hb.size,fun i row j v hi hj => by rw [hb.cell h3]; exact h4 i row j v hi hj⟩
theorem rows_at {m : Bool} {w0 : Ini m} {es : Nat} {ρ : List Lg.Place} {lh : Heap} {w : World} {o : Own} {φ : List Nat} {x : Value} {l : LV} {md : LMode} {rows : List (List VV)} (he : 0 < es) (R : Rep w0 ρ lh w) (hx : VR ρ x l) (hv : RV o φ lh (.list md rows) l) (hr : ∀ row ∈ rows,row.length = es ∧ row.all scal = true) : WRows es w x rows := by
  generalize hl : VV.list md rows = v at hv
  cases hv with
  | nil => cases hl; cases hx; exact .inl ⟨rfl,.inl rfl⟩
  | list0 m n off es' full hm =>
    cases hl
    cases hx with
    | slice h hc hx hf => exact .inl ⟨rfl,.inr (.inr ⟨_,_,_,rfl⟩)⟩
    | slice0 a off es full h => exact .inl ⟨rfl,.inr (.inl ⟨_,rfl⟩)⟩
  | @list m' rows' b off es' full rw lcs hw hb hle hm hrr hh =>
    cases hl
    cases rows with
    | nil =>
      generalize hn : ([] : List (List VV)).length = n at hx
      cases hx with
      | slice h hc hx hf => subst hn; exact .inl ⟨rfl,.inr (.inr ⟨_,_,_,rfl⟩)⟩
      | slice0 a off es full h => exact .inl ⟨rfl,.inr (.inl ⟨_,rfl⟩)⟩
    | cons r0 rs =>
      have hes : es' = es := by rw [← (hrr r0 (List.mem_cons_self ..)).1]; exact (hr r0 (List.mem_cons_self ..)).1
      subst hes
      generalize hrow : r0 :: rs = rows at *
      have hpos : 0 < rows.length := by rw [← hrow]; simp
      generalize hn : rows.length = n at hx
      cases hx with
      | slice h hc hx hf =>
        rename_i cap pl
        have hcp : 0 < cap * es' := Nat.mul_pos (by omega) he
        have hblk := R.blk _ _ _ hb h
        obtain ⟨_,_,hcell,_⟩ := hblk
        refine .inr ⟨pl.block,pl.off + off,cap,by rw [hn]; rfl,by omega,?_,fun i row j v hi hj => ?_⟩
        · rcases R.lt _ _ h with h2 | h2
          · exact h2
          · omega
        · have hil := (List.getElem?_eq_some_iff.1 hi).1
          have hrl := hr row (List.mem_of_getElem? hi)
          have hjl := (List.getElem?_eq_some_iff.1 hj).1
          have hlt : off + i * es' + j < lcs.length := by
            have : (i + 1) * es' ≤ rows.length * es' := Nat.mul_le_mul_right _ hil
            rw [Nat.succ_mul] at this
            omega
          obtain ⟨lc,hlc⟩ : ∃ lc,lcs[off + i * es' + j]? = some lc := ⟨_,List.getElem?_eq_getElem hlt⟩
          obtain ⟨y,hy1,hy2⟩ := hcell _ _ hlc
          have := sc_val (hh i row j v lc hi hj hlc) hy2 (List.all_eq_true.1 hrl.2 v (List.mem_of_getElem? hj))
          rw [← this,← hy1]
          simp only [Place.at,Nat.add_assoc]
      | slice0 a off es full h => omega
  | _ => cases hl
theorem at_rows {m : Bool} {es : Nat} {w : World} {ρ : List Lg.Place} {h : Heap} (R : Rep (m := m) ⟨w⟩ ρ h w) (hro : ∀ (n : Nat) (b : LBlk),h[n]? = some b → b.rw = false) {x : Value} {rows : List (List VV)} (hx : WRows es w x rows) (hr : ∀ row ∈ rows,row.length = es ∧ row.all scal = true) :
    ∃ ρ' h' l,Rep (m := m) ⟨w⟩ ρ' h' w ∧ (∀ (n : Nat) (b : LBlk),h'[n]? = some b → b.rw = false) ∧ Ext ρ ρ' ∧ (∃ t,h' = h ++ t) ∧ VR ρ' x l ∧ ∀ (o : Own) (φ : List Nat) (t : Heap),(∀ b,o b = none) → RV o φ (h' ++ t) (.list .s rows) l := by
  have ro' : ∀ cs : List LV,∀ (n : Nat) (b : LBlk),(h ++ [.cells false cs])[n]? = some b → b.rw = false := fun cs n b hb => by
    rcases getElem?_snoc hb with h3 | ⟨_,rfl⟩
    · exact hro n b h3
    · rfl
  rcases hx with ⟨rfl,rfl | ⟨a,rfl⟩ | ⟨b,off,cap,rfl⟩⟩ | ⟨b,off,cap,rfl,h2,h3,h4⟩
  · exact ⟨ρ,h,.nilslice,R,hro,Ext.refl _,⟨[],(List.append_nil _).symm⟩,.nilslice,fun o φ t ho => .nil _⟩
  · have R' := R.addRo hro (cs := []) (pl := ⟨a.block,a.off,0⟩) rfl (Nat.le_refl _) (.inr rfl) (fun i l hl => by simp at hl)
    exact ⟨_,_,.slice h.length 0 0 es false,R',ro' _,Ext.app _ _,⟨_,rfl⟩,.slice0 _ _ _ _ (by rw [← R.len]; exact List.getElem?_concat_length),fun o φ t ho => .list0 _ _ _ _ _ (fun h => by cases h)⟩
  · have R' := R.addRo hro (cs := []) (pl := ⟨b,off,0⟩) rfl (Nat.le_refl _) (.inr rfl) (fun i l hl => by simp at hl)
    refine ⟨_,_,.slice h.length 0 0 0 false,R',ro' _,Ext.app _ _,⟨_,rfl⟩,?_,fun o φ t ho => .list0 _ _ _ _ _ (fun h => by cases h)⟩
    have := VR.slice (ρ := ρ ++ [⟨b,off,0⟩]) (n := h.length) (off := 0) (len := 0) (cap := cap) (es := 0) (full := false) (pl := ⟨b,off,0⟩) (by rw [← R.len]; exact List.getElem?_concat_length) (Nat.zero_le _) (by simp) (by simp)
    exact this
  · have hsz := flat_size fun row hrow => (hr row hrow).1
    have R' := R.addRo hro (cs := rows.flatten.map VV.sc) (pl := ⟨b,off,cap * es⟩) (by
        rw [List.all_eq_true]
        intro y hy
        obtain ⟨v,hv,rfl⟩ := List.mem_map.1 hy
        obtain ⟨row,hrow,hv⟩ := List.mem_flatten.1 hv
        have := List.all_eq_true.1 (hr row hrow).2 v hv
        cases v <;> first | (cases this; done) | rfl)
      (by rw [List.length_map,hsz]; exact Nat.mul_le_mul_right _ h2) (.inl h3) (fun i l hl => by
        rw [List.getElem?_map] at hl
        obtain ⟨v,hv,rfl⟩ := Option.map_eq_some_iff.1 hl
        obtain ⟨i',j,row,rfl,h5,h6⟩ := flat_at (fun row hrow => (hr row hrow).1) hv
        refine ⟨scV v,?_,sc_vr (List.all_eq_true.1 (hr row (List.mem_of_getElem? h5)).2 v (List.mem_of_getElem? h6))⟩
        rw [← h4 i' row j v h5 h6]
        simp only [Place.at,Nat.add_assoc])
    refine ⟨_,_,.slice h.length 0 rows.length es false,R',ro' _,Ext.app _ _,⟨_,rfl⟩,?_,fun o φ t ho => ?_⟩
    · have := VR.slice (ρ := ρ ++ [⟨b,off,cap * es⟩]) (n := h.length) (off := 0) (len := rows.length) (cap := cap) (es := es) (full := false) (pl := ⟨b,off,cap * es⟩) (by rw [← R.len]; exact List.getElem?_concat_length) h2 (by simp) (by simp)
      exact this
    · refine .list (b := h.length) (off := 0) (full := false) (rw := false) (lcs := rows.flatten.map VV.sc) (ho _) ?_ (by rw [List.length_map,hsz]; omega) (fun h => by cases h) (fun row hrow => ⟨(hr row hrow).1,?_⟩) (fun i row j v l hi hj hl => ?_)
      · rw [List.getElem?_append_left (by simp)]; exact List.getElem?_concat_length
      · exact lowL_of fun v hv => scal_low (List.all_eq_true.1 (hr row hrow).2 v hv)
      · rw [Nat.zero_add,List.getElem?_map,flat_put (fun row hrow => (hr row hrow).1) hi hj] at hl
        cases hl
        exact sc_rv (List.all_eq_true.1 (hr row (List.mem_of_getElem? hi)).2 v (List.mem_of_getElem? hj))
end Vg
