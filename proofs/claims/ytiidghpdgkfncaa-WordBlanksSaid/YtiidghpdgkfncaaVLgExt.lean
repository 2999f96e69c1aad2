/- Functions of the library that are proved elsewhere,as functions of the logical machine. -/
import Derived.Test.YtiidghpdgkfncaaVLgCall
namespace Lg
open Go Go.RowKit
/-- One operation of the library,of two arguments. -/
def ext2 (k : ExtK) : LFunc := ⟨3,2,[.tmp 2],.ops [⟨some 2,none,.ext k [.t 0,.t 1]⟩]⟩
theorem ext2_run {cs : CallS} {K : Nat} {k : ExtK} {args : List LV} {h : Heap} {Q : LV → Heap → Prop} (hb : bodyS cs K (ext2 k) args h Q) : ∃ a b v,args = [a,b] ∧ extE k [argE h a,argE h b] = some v ∧ Q v h := by
  obtain ⟨h1,h2⟩ := hb
  match args,h1 with
  | [a,b],_ =>
    simp only [ext2,codeS,opsS,operS,opS,opE] at h2
    obtain ⟨v,h',h3,h4⟩ := h2
    split at h3
    case h_2 => cases h3
    rename_i r hr
    cases h3
    obtain ⟨_,vs,h5,h6⟩ := h4
    simp [resultsE,resE,putE] at h5
    subst h5
    exact ⟨a,b,_,rfl,hr,h6⟩
variable {m : Bool} {P : Program} {f : FuncId}
theorem argE_str {h : Heap} {l : LV} {s : List UInt8} (e : argE h l = .str s) : l = .str s := by
  unfold argE at e
  split at e <;> first | (cases e; done) | (cases e; rfl) | skip
  split at e
  · cases e
  · split at e
    · split at e <;> cases e
    · cases e
theorem vr_str {ρ : List Place} {v : Value} {s : List UInt8} (h : VR ρ v (.str s)) : ∃ b : ByteArray,v = .string b ∧ b.data.toList = s := by
  generalize hl : LV.str s = l at h
  cases h with
  | undef => cases hl
  | str b => cases hl; exact ⟨b,rfl,rfl⟩
  | _ => cases hl
theorem one_byte {b : ByteArray} {c : UInt8} (h : b.data.toList = [c]) : b = ⟨#[c]⟩ := by
  cases b with
  | mk d => simp only at h; congr 1; exact Array.toList_inj.1 (by rw [h])
theorem vrs_two {ρ : List Place} {vs : Array Value} {a b : LV} (h : VRs ρ vs.toList [a,b]) : ∃ x y,vs = #[x,y] ∧ VR ρ x a ∧ VR ρ y b := by
  obtain ⟨h1,h2⟩ := h
  cases vs with
  | mk l =>
    match l,h1 with
    | [x,y],_ => exact ⟨x,y,rfl,h2 0 x a rfl rfl,h2 1 y b rfl rfl⟩
theorem index1_ok (hf : ∃ fn,P.funcs[f]? = some fn ∧ fn.body.isSome = true ∧ fn.name ≠ "runtime.NumGoroutine")
    (hc : ∀ (s : ByteArray) (c : UInt8) (w : World),Calls P f #[.string s,.string ⟨#[c]⟩] w fun e w' => e = .returned (.int .i64 (Lib.indexByte s.data.toList c)) ∧ w' = w) : ExtOK m P f (ext2 .index1) := by
  refine ⟨hf,fun cs K args h Q hb w0 ρ w vs R hv => ?_⟩
  obtain ⟨a,b,v,rfl,he,hq⟩ := ext2_run hb
  obtain ⟨x,y,rfl,hx,hy⟩ := vrs_two hv
  unfold extE at he
  split at he
  · rename_i s c _ h1
    injection h1 with h1 h2; injection h2 with h2 _
    have := argE_str h1; subst this
    have := argE_str h2; subst this
    obtain ⟨bs,rfl,rfl⟩ := vr_str hx
    obtain ⟨bc,rfl,hbc⟩ := vr_str hy
    rw [one_byte hbc]
    cases he
    refine (hc bs c w).mono ?_
    rintro e w' ⟨rfl,rfl⟩
    exact ⟨_,ρ,_,h,rfl,Ext.refl _,R,.int _ _,hq⟩
  · rename_i h1 _; cases h1
  · rename_i h1 _; cases h1
  · rename_i h1 _; cases h1
  · cases he
theorem count1_ok (hf : ∃ fn,P.funcs[f]? = some fn ∧ fn.body.isSome = true ∧ fn.name ≠ "runtime.NumGoroutine")
    (hc : ∀ (s : ByteArray) (c : UInt8) (w : World),Calls P f #[.string s,.string ⟨#[c]⟩] w fun e w' => e = .returned (.int .i64 (Lib.countByte s.data.toList c)) ∧ w' = w) : ExtOK m P f (ext2 .count1) := by
  refine ⟨hf,fun cs K args h Q hb w0 ρ w vs R hv => ?_⟩
  obtain ⟨a,b,v,rfl,he,hq⟩ := ext2_run hb
  obtain ⟨x,y,rfl,hx,hy⟩ := vrs_two hv
  unfold extE at he
  split at he
  · rename_i h1 _; cases h1
  · rename_i s c _ h1
    injection h1 with h1 h2; injection h2 with h2 _
    have := argE_str h1; subst this
    have := argE_str h2; subst this
    obtain ⟨bs,rfl,rfl⟩ := vr_str hx
    obtain ⟨bc,rfl,hbc⟩ := vr_str hy
    rw [one_byte hbc]
    cases he
    refine (hc bs c w).mono ?_
    rintro e w' ⟨rfl,rfl⟩
    exact ⟨_,ρ,_,h,rfl,Ext.refl _,R,.int _ _,hq⟩
  · rename_i h1 _; cases h1
  · rename_i h1 _; cases h1
  · cases he
/-- More blocks,and nothing else. -/
theorem Rep.grow {m : Bool} {w0 : Ini m} {w w' : World} {ρ : List Place} {h : Heap} (R : Rep w0 ρ h w) (b : Below w.heap.size w w') (hd : m = true → w.drawn ≤ w'.drawn) : Rep w0 ρ h w' := by
  have keep : ∀ pl : Place,pl.block < w.heap.size ∨ pl.ext = 0 → Keeps w w' pl := fun pl hl => by
    rcases hl with hl | hl
    · exact ⟨fun i _ => b.cell hl,fun i _ => b.frozen hl,fun _ _ es c h => by rw [b.block _ hl]; exact h⟩
    · exact ⟨fun i hi => by omega,fun i hi => by omega,fun h1 => by omega⟩
  refine ⟨R.len,⟨R.below.toBelow.trans (b.mono R.below.size),fun e => Nat.le_trans (R.below.dr e) (hd e)⟩,fun n pl hn => ?_,fun n bk pl hb hp => ?_,R.own,R.dis⟩
  · rcases R.lt n pl hn with h1 | h1
    · exact .inl (Nat.lt_of_lt_of_le h1 b.size)
    · exact .inr h1
  · have hB := R.blk n bk pl hb hp
    refine hB.keeps (Ext.refl _) (keep _ ?_)
    rcases R.lt n pl hp with h1 | h1
    · exact .inl (by rw [LBlk.span_block]; exact h1)
    · exact .inr (by have := hB.span_le; omega)
theorem argE_agg {h : Heap} {l : LV} {xs : List LV} (e : argE h l = .agg xs) : (xs = [] ∧ (l = .nilslice ∨ ∃ n off es f,l = .slice n off 0 es f)) ∨ ∃ n off f rw lcs,l = .slice n off xs.length 1 f ∧ h[n]? = some (.cells rw lcs) ∧ off + xs.length ≤ lcs.length ∧ xs = (lcs.drop off).take xs.length ∧ 1 ≤ xs.length := by
  unfold argE at e
  split at e <;> first | (cases e; done) | skip
  · cases e; exact .inl ⟨rfl,.inl rfl⟩
  · rename_i n off len es f
    split at e
    · rename_i hl; subst hl; cases e; exact .inl ⟨rfl,.inr ⟨_,_,_,_,rfl⟩⟩
    · rename_i hl
      split at e
      case isFalse => cases e
      rename_i he
      subst he
      unfold cellsOf at e
      split at e
      case h_2 => cases e
      rename_i cs hcs
      cases e
      simp only at hcs
      split at hcs
      case h_2 => cases hcs
      rename_i rw lcs hb
      split at hcs
      case isFalse => cases hcs
      rename_i hle
      cases hcs
      rw [Nat.mul_one] at hle ⊢
      have hlen : ((lcs.drop off).take len).length = len := by rw [List.length_take,List.length_drop]; omega
      exact .inr ⟨n,off,f,rw,lcs,by rw [hlen],hb,by rw [hlen]; exact hle,by rw [hlen],by omega⟩
theorem strsOf_get : ∀ {xs : List LV} {l : List (List UInt8)},strsOf xs = some l → xs = l.map LV.str
  | [],l,h => by cases h; rfl
  | x :: xs,l,h => by
    unfold strsOf at h
    split at h
    · rename_i e; cases e
    · rename_i s r e
      cases e
      split at h
      · rename_i l' hl'
        cases h
        rw [strsOf_get hl']; rfl
      · cases h
    · cases h
theorem bytes_back (s : List UInt8) : (ByteArray.mk s.toArray).data.toList = s := by simp
theorem join_ok (hf : ∃ fn,P.funcs[f]? = some fn ∧ fn.body.isSome = true ∧ fn.name ≠ "runtime.NumGoroutine")
    (h1 : ∀ (bk o c : Nat) (xs : List ByteArray) (sep : ByteArray) (w : World),(∀ (j : Nat) x,xs[j]? = some x → w.cell? ⟨bk,o + j,none⟩ = some (.string x)) → bk < w.heap.size → xs.length ≤ 140737488355328 → xs.length ≤ c →
      (sep.data.toList.intercalate (xs.map (·.data.toList))).length ≤ 140737488355328 →
      Calls P f #[.slice (some ⟨bk,o,none⟩) xs.length c,.string sep] w fun e w' => e = .returned (.string ⟨(sep.data.toList.intercalate (xs.map (·.data.toList))).toArray⟩) ∧ Below w.heap.size w w')
    (h0 : ∀ (a : Option Addr) (c : Nat) (sep : ByteArray) (w : World),Calls P f #[.slice a 0 c,.string sep] w fun e w' => e = .returned (.string ⟨#[]⟩) ∧ w' = w) : ExtOK false P f (ext2 .join) := by
  refine ⟨hf,fun cs K args h Q hb w0 ρ w vs R hv => ?_⟩
  obtain ⟨a,b,v,rfl,he,hq⟩ := ext2_run hb
  obtain ⟨x,y,rfl,hx,hy⟩ := vrs_two hv
  unfold extE at he
  split at he
  · rename_i h1 _; cases h1
  · rename_i h1 _; cases h1
  · rename_i xs sep _ h2
    injection h2 with h2 h3; injection h3 with h3 _
    have := argE_str h3; subst this
    obtain ⟨bs,rfl,rfl⟩ := vr_str hy
    split at he
    case h_2 => cases he
    rename_i l hl
    split at he
    case isFalse => cases he
    rename_i hsz
    cases he
    have hxs := strsOf_get hl
    rcases argE_agg h2 with ⟨rfl,hnil⟩ | ⟨n,off,fl,rw',lcs,rfl,hblk,hle,hcs,hpos⟩
    · obtain rfl : l = [] := by cases l with
        | nil => rfl
        | cons => cases hxs
      have hj : ∃ a c,x = .slice a 0 c := by
        rcases hnil with rfl | ⟨n,off,es,f,rfl⟩
        · generalize hlx : LV.nilslice = lx at hx
          cases hx with
          | nilslice => exact ⟨_,_,rfl⟩
          | _ => cases hlx
        · generalize hlx : LV.slice n off 0 es f = lx at hx
          cases hx with
          | slice => cases hlx; exact ⟨_,_,rfl⟩
          | slice0 => exact ⟨_,_,rfl⟩
          | _ => cases hlx
      obtain ⟨aa,cc,rfl⟩ := hj
      refine (h0 aa cc bs w).mono ?_
      rintro e w' ⟨rfl,rfl⟩
      exact ⟨_,ρ,_,h,rfl,Ext.refl _,R,.str _,hq⟩
    · obtain ⟨pl,hpl⟩ := R.place hblk
      have hlen : xs.length = l.length := by rw [hxs,List.length_map]
      have hv : ∃ cap,x = .slice (some (pl.at off)) xs.length cap ∧ xs.length ≤ cap ∧ off + cap ≤ pl.ext := by
        generalize hlx : LV.slice n off xs.length 1 fl = lx at hx
        cases hx with
        | slice h hc hx hf =>
          cases hlx
          rw [hpl] at h
          cases h
          exact ⟨_,rfl,hc,by rw [Nat.mul_one] at hx; exact hx⟩
        | slice0 => injection hlx with _ _ e; omega
        | _ => cases hlx
      obtain ⟨cap,rfl,hcap,hext⟩ := hv
      have hB := R.blk n _ pl hblk hpl
      obtain ⟨_,_,hcell,_⟩ := hB
      have hmap : (l.map fun s => ByteArray.mk s.toArray).map (·.data.toList) = l := by
        rw [List.map_map]; conv => rhs; rw [← List.map_id l]
        exact List.map_congr_left fun s _ => bytes_back s
      have hc := h1 pl.block (pl.off + off) cap (l.map fun s => ByteArray.mk s.toArray) bs w (fun j x hjx => by
        rw [List.getElem?_map] at hjx
        obtain ⟨s,hs,rfl⟩ := Option.map_eq_some_iff.1 hjx
        have hjl : j < xs.length := by rw [hlen]; exact lt_of_getElem? hs
        have e1 : xs[j]? = some (.str s) := by rw [hxs,List.getElem?_map,hs]; rfl
        rw [hcs,List.getElem?_take,if_pos hjl,List.getElem?_drop] at e1
        obtain ⟨v,hv1,hv2⟩ := hcell _ _ e1
        obtain ⟨b,rfl,hb⟩ := vr_str hv2
        have e2 : b = ⟨s.toArray⟩ := by cases b with
          | mk d => simp only at hb; congr 1; exact Array.toList_inj.1 (by rw [hb])
        rw [← e2,← hv1]
        simp only [Place.at,Nat.add_assoc])
        (by rcases R.lt n pl hpl with h | h
            · exact h
            · omega)
        (by rw [List.length_map]; omega) (by rw [List.length_map]; omega) (by rw [hmap]; omega)
      rw [hmap,List.length_map,← hlen] at hc
      refine hc.mono ?_
      rintro e w' ⟨rfl,hbel⟩
      refine ⟨_,ρ,_,h,rfl,Ext.refl _,R.grow hbel (fun h => by cases h),?_,hq⟩
      have := VR.str (ρ := ρ) ⟨(bs.data.toList.intercalate l).toArray⟩
      rw [bytes_back] at this
      exact this
  · rename_i h1 _; cases h1
  · cases he
end Lg
