/- Operations: copy,make,maps,calls; all of them together. -/
import Derived.Test.YtpoofafddbcnpaaVVgOps5
namespace Vg
open Go Lg
set_option linter.unusedSimpArgs false
set_option linter.unusedVariables false
set_option maxHeartbeats 1000000
section
variable {cf : VCall} {lcf : CallF} {lo : Nat} {w : Own} {φ : List Nat} {env : VEnv} {lenv : Env} {vh vh' : VHeap} {lh : Heap} {d : Nat} {v : VV}

theorem sim_make {mt : Bool} {es bytes : Nat} {zs : List LV} {x y : X} (H : HS lo w φ vh lh) (E : ES w φ lh env lenv) (hE : opV cf lo (.make mt es bytes zs x y) env vh = some (v,vh')) : OpRes lcf lo w φ env lenv lh (.make mt es bytes zs x y) d v vh' := by
  simp only [opV] at hE
  have hx := E.x x
  have hy := E.x y
  split at hE
  case h_2 => cases hE
  rename_i n c h1 h2
  split at hE
  case isFalse => cases hE
  rename_i hc
  rw [h1] at hx; rw [h2] at hy
  generalize hl1 : x.ev lenv = l1 at hx
  generalize hl2 : y.ev lenv = l2 at hy
  cases hx; cases hy
  have hop : opE lcf 0 (.make mt es bytes zs x y) lenv lh = some (.slice lh.length 0 n.toNat es true,lh ++ [.cells true (rows zs n.toNat)]) := by simp only [opE,hl1,hl2]; rw [if_pos hc]
  split at hE
  · split at hE
    case isFalse => cases hE
    rename_i hzl
    simp only [Option.some.injEq,Prod.mk.injEq] at hE
    obtain ⟨rfl,rfl⟩ := hE
    have fr : Fr w lh w (lh ++ [.cells true (rows zs n.toNat)]) := fr_app
    refine ⟨_,_,w,φ,hop,fr,PExt.refl _,H.mono fr (fun _ => same_app) (fun b hb => H.new b (by simp at hb; omega)),E.mono (PExt.refl _) fr (fun _ => same_app),?_,Tok.no fun r hr => by cases hr⟩
    have hat : ∀ k,RowsAt w φ (lh ++ [.cells true (rows zs n.toNat)]) es (List.replicate k (nrmL (ofLVs zs))) (rows zs k) := by
      have one : RVs w φ (lh ++ [.cells true (rows zs n.toNat)]) (nrmL (ofLVs zs)) zs := nrmL_rv _ _ (ofLVs_rv _ _ _ zs)
      intro k
      induction k with
      | zero => exact .nil
      | succ k ih =>
        rw [List.replicate_succ,rows]
        have h0 : RowsAt w φ (lh ++ [.cells true (rows zs n.toNat)]) es [nrmL (ofLVs zs)] zs := ⟨by simp [hzl],fun row hr => by
          simp at hr; subst hr
          exact ⟨by rw [one.1,hzl],by rw [nrmL_low]; exact ofLVs_free zs⟩,fun i row j v l hr hv hl => by
          cases i with
          | succ i => simp at hr
          | zero =>
            simp at hr; subst hr
            rw [Nat.zero_mul,Nat.zero_add] at hl
            exact one.2 j v l hv hl⟩
        exact h0.append ih
    have hr := hat n.toNat
    have hl := hr.len
    rw [List.length_replicate] at hl
    have := hr.list (b := lh.length) (off := 0) (m := .f) (full := true) (rw := true) (H.new _ (Nat.le_refl _)) (lcs := rows zs n.toNat) List.getElem?_concat_length (Nat.zero_le _) (by rw [List.length_replicate,List.drop_zero,List.take_of_length_le (by omega)]) (fun _ => rfl)
    rwa [List.length_replicate] at this
  simp only [Option.some.injEq,Prod.mk.injEq] at hE
  obtain ⟨rfl,rfl⟩ := hE
  rw [ofLVs_sh]
  exact new_cells (l := .slice lh.length 0 n.toNat es true) H E rfl hop (ofLVs_rv w φ lh _) (fun _ _ _ h => .hs h) (fun r hr => by cases hr)

theorem sim_copy {es : Nat} {x y : X} (H : HS lo w φ vh lh) (E : ES w φ lh env lenv) (hE : opV cf lo (.copy es x y) env vh = some (v,vh')) : OpRes lcf lo w φ env lenv lh (.copy es x y) d v vh' := by
  simp only [opV] at hE
  have hx := E.x x
  split at hE
  case h_2 => cases hE
  rename_i n off len es' new h1 h2
  obtain ⟨c2,hsrc,hat⟩ := rows_src H (E.x y) h2
  rw [h1] at hx
  generalize hl : x.ev lenv = l at hx
  cases hx with
  | @hs _ _ _ _ pb full hp =>
  split at hE
  case isFalse => cases hE
  rename_i hes
  subst hes
  split at hE
  case h_2 => cases hE
  rename_i rw cs hn
  split at hE
  · rename_i hm0
    cases hE
    obtain ⟨lrw,lcs,g1,g2,g3,g4⟩ := H.cells hn hp
    exact OpRes.val H E rfl (l := .int .i64 0) (by simp only [opE,hsrc,hl,g1,if_true,if_pos hm0]) (.int _ _) (fun r hr => by cases hr)
  · rename_i hm0
    split at hE
    case isFalse => cases hE
    rename_i hc
    obtain ⟨hrw,hlo,hle⟩ := hc
    simp only [Option.some.injEq,Prod.mk.injEq] at hE
    obtain ⟨rfl,rfl⟩ := hE
    obtain ⟨lrw,lcs,g1,g2,g3,g4⟩ := H.cells hn hp
    rw [if_pos ⟨hrw,hlo⟩] at g4
    obtain ⟨rfl,g5,g6⟩ := g4
    have ht := hat.take (min new.length len)
    have hf := ht.flat
    let lh' := lh.set pb (.cells true (Lg.splice lcs off (c2.take (min new.length len * es'))))
    have keep : ∀ q,q ≠ pb → lh'[q]? = lh[q]? := fun q hq => List.getElem?_set_ne (fun e => hq e.symm)
    have fr : Fr w lh w lh' := ⟨by simp [lh'],fun q hq hw => ⟨hw,keep q (by rintro rfl; rw [g5] at hw; cases hw)⟩,fun q hq hw => ⟨hw,keep q (by rintro rfl; rw [g5] at hw; cases hw)⟩⟩
    have same : ∀ P : Owner → Prop,¬ P (.blk n) → Same P w lh w lh' := fun P hp2 q y hq hw hy => ⟨hw,keep q (by rintro rfl; rw [g5] at hw; cases hw; exact hp2 hy)⟩
    have hpb := lt_of_getElem? g1
    have hf2 := hf.mono (PExt.refl φ) fr
    have hlen : ((List.take (min new.length len) new).flatten.map fun c => c.sh.ow).length = min new.length len * es' := by
      rw [List.length_map,hf.1,ht.len,List.length_take]
      congr 1; omega
    have hlen2 : (c2.take (min new.length len * es')).length = min new.length len * es' := by rw [ht.len,List.length_take]; congr 1; omega
    have hml : min new.length len * es' ≤ len * es' := Nat.mul_le_mul_right _ (Nat.min_le_right _ _)
    refine ⟨.int .i64 (min new.length len : Nat),lh',w,φ,?_,fr,PExt.refl _,H.upd fr (fun m hm => same _ (fun h => hm h.symm)) (fun pb' hp' => ?_) (fun b hb => H.new b (by simpa [lh'] using hb)),E.mono (PExt.refl _) fr (fun i => same _ (fun h => by cases h)),.int _ _,Tok.no fun r hr => by cases hr⟩
    · simp only [opE,hsrc,hl,g1,if_true,if_neg hm0]
      rw [if_pos ⟨trivial,Nat.zero_le _,by rw [← g2.1]; exact hle⟩]
    · rw [hp] at hp'; cases hp'
      have hl1 := g2.1
      refine ⟨true,_,List.getElem?_set_self hpb,(g2.mono (PExt.refl _) fr).splice (ow_rvs hf2) off,?_,?_⟩
      · refine lowL_of fun y hy => ?_
        unfold vsplice at hy
        rcases List.mem_append.1 hy with hy | hy
        · rcases List.mem_append.1 hy with hy | hy
          · exact lowL_mem g3 y (List.mem_of_mem_take hy)
          · exact lowL_mem (ow_low (ht.flat_free (n + 1))) y hy
        · exact lowL_mem g3 y (List.mem_of_mem_drop hy)
      · rw [if_pos ⟨hrw,hlo⟩]
        refine ⟨rfl,g5,fun i y ly hy hly => ?_⟩
        have old : ∀ (j : Nat),cs[j]? = some y → lcs[j]? = some ly → Tok w lh' (.cell n j) y ly := fun j a1 a2 =>
          (g6 j y ly a1 a2).mono ⟨φ,g2.2 j y ly a1 a2⟩ fr (same _ (fun e => by cases e))
        unfold vsplice at hy
        unfold Lg.splice at hly
        rcases Nat.lt_or_ge i off with hi | hi
        · rw [List.append_assoc,List.getElem?_append_left (by simp; omega),List.getElem?_take,if_pos hi] at hy hly
          exact old i hy hly
        · rcases Nat.lt_or_ge i (off + min new.length len * es') with hj | hj
          · obtain ⟨j,rfl⟩ : ∃ j,i = off + j := ⟨i - off,by omega⟩
            rw [List.append_assoc,List.getElem?_append_right (by simp; omega)] at hy hly
            simp only [List.length_take,Nat.min_eq_left (show off ≤ cs.length by omega),Nat.min_eq_left (show off ≤ lcs.length by omega),Nat.add_sub_cancel_left] at hy hly
            rw [List.getElem?_append_left (by omega)] at hy hly
            exact ow_tok (o := fun _ => .cell n (off + j)) hf2 j y ly hy hly
          · rw [List.getElem?_append_right (by rw [List.length_append,hlen,List.length_take]; omega),List.getElem?_drop] at hy
            rw [List.getElem?_append_right (by rw [List.length_append,hlen2,List.length_take]; omega),List.getElem?_drop] at hly
            rw [List.length_append,hlen,List.length_take] at hy
            rw [List.length_append,hlen2,List.length_take] at hly
            have e1 : off + min new.length len * es' + (i - (min off cs.length + min new.length len * es')) = i := by omega
            have e2 : off + min new.length len * es' + (i - (min off lcs.length + min new.length len * es')) = i := by omega
            rw [e1] at hy; rw [e2] at hly
            exact old i hy hly

theorem intsOf_ne : ∀ {ls : List LV} {l : List Int},intsOf ls = some l → ∀ x ∈ ls,x ≠ .undef
  | [],_,_,x,hx => by cases hx
  | v :: ls,l,h,x,hx => by
    unfold intsOf at h
    split at h
    · rename_i e; cases e
    · rename_i n r e
      cases e
      split at h
      · rename_i l' hl
        rcases List.mem_cons.1 hx with rfl | hx
        · exact fun h => by cases h
        · exact intsOf_ne hl x hx
      · cases h
    · cases h
theorem rw_ok {k : RwK} {len : Nat} {vs : List VV} {ls out : List LV} (h : RVs w φ lh vs ls) (hr : rwE k len (vs.map VV.sc) = some out) : rwE k len ls = some out := by
  cases k with
  | clear zs => exact hr
  | sort es =>
    simp only [rwE] at hr ⊢
    split at hr
    case h_2 => cases hr
    rename_i l hl
    rw [h.scs (intsOf_ne hl),hl]
    exact hr
theorem ofLV_sc {l : LV} (h : scLV l = true) : ∃ v,ofLV l = v ∧ scal v = true ∧ v.sc = l := by
  cases l <;> simp [scLV] at h <;> exact ⟨_,rfl,rfl,rfl⟩
theorem ofLVs_eq : ∀ ls : List LV,ofLVs ls = ls.map ofLV
  | [] => rfl
  | l :: ls => by simp only [ofLVs,List.map_cons,ofLVs_eq ls]
theorem sim_rewr {k : RwK} {es : Nat} {g : FuncId} {x f : X} (H : HS lo w φ vh lh) (E : ES w φ lh env lenv) (hE : opV cf lo (.rewr k es g x f) env vh = some (v,vh')) : OpRes lcf lo w φ env lenv lh (.rewr k es g x f) d v vh' := by
  simp only [opV] at hE
  have hx := E.x x
  have hf := E.x f
  split at hE
  case h_2 => cases hE
  rename_i g' hvf
  split at hE
  case isFalse => cases hE
  rename_i hg
  subst hg
  rw [hvf] at hf
  have hlf : f.ev lenv = .func g' [] := by
    generalize f.ev lenv = lf at hf
    cases hf with
    | func _ _ ls hl hh =>
      cases ls with
      | nil => rfl
      | cons => simp at hl
  split at hE
  · rename_i m hvx
    cases hE
    rw [hvx] at hx
    refine OpRes.val H E rfl (l := .tup []) ?_ (.tup [] [] rfl (fun i v l h => by simp at h)) (fun r hr => by cases hr)
    simp only [opE,hlf,if_true]
    generalize hl : x.ev lenv = l at hx
    generalize hr0 : ([] : List (List VV)) = r0 at hx
    cases hx with
    | nil => rfl
    | list0 => rfl
    | list => subst hr0; rfl
  · rename_i n off len es' hvx
    rw [hvx] at hx
    generalize hl : x.ev lenv = l at hx
    cases hx with
    | @hs _ _ _ _ pb full hp =>
    split at hE
    · rename_i h0
      subst h0
      cases hE
      exact OpRes.val H E rfl (l := .tup []) (by simp only [opE,hlf,if_true,hl]) (.tup [] [] rfl (fun i v l h => by simp at h)) (fun r hr => by cases hr)
    · rename_i h0
      split at hE
      case isFalse => cases hE
      rename_i hes
      subst hes
      split at hE
      case h_2 => cases hE
      rename_i rw cs hn
      split at hE
      case isFalse => cases hE
      rename_i hc
      obtain ⟨hrw,hlo,hle⟩ := hc
      split at hE
      case h_2 => cases hE
      rename_i out hout
      split at hE
      case isFalse => cases hE
      rename_i hol
      obtain ⟨hlen,hsc⟩ := hol
      simp only [Option.some.injEq,Prod.mk.injEq] at hE
      obtain ⟨rfl,rfl⟩ := hE
      obtain ⟨lrw,lcs,g1,g2,g3,g4⟩ := H.cells hn hp
      rw [if_pos ⟨hrw,hlo⟩] at g4
      obtain ⟨rfl,g5,g6⟩ := g4
      have hlout : rwE k len ((lcs.drop off).take (len * es')) = some out := rw_ok ((g2.drop off).take (len * es')) hout
      let lh' := lh.set pb (.cells true (Lg.splice lcs off out))
      have keep : ∀ q,q ≠ pb → lh'[q]? = lh[q]? := fun q hq => List.getElem?_set_ne (fun e => hq e.symm)
      have fr : Fr w lh w lh' := ⟨by simp [lh'],fun q hq hw => ⟨hw,keep q (by rintro rfl; rw [g5] at hw; cases hw)⟩,fun q hq hw => ⟨hw,keep q (by rintro rfl; rw [g5] at hw; cases hw)⟩⟩
      have same : ∀ P : Owner → Prop,¬ P (.blk n) → Same P w lh w lh' := fun P hp2 q y hq hw hy => ⟨hw,keep q (by rintro rfl; rw [g5] at hw; cases hw; exact hp2 hy)⟩
      have hpb := lt_of_getElem? g1
      have hov := ofLVs_rv w φ lh' out
      have hvl : (ofLVs out).length = len * es' := by rw [hov.1]; exact hlen
      have hscal : ∀ y ∈ ofLVs out,scal y = true := fun y hy => by
        obtain ⟨i,hi⟩ := List.mem_iff_getElem?.1 hy
        obtain ⟨l0,hl0⟩ := getElem?_lists hov.1 hi
        have h1 := List.all_eq_true.1 hsc l0 (List.mem_of_getElem? hl0)
        obtain ⟨v0,e1,e2,_⟩ := ofLV_sc h1
        rw [ofLVs_eq,List.getElem?_map,hl0] at hi
        cases hi
        rw [e1]; exact e2
      refine ⟨.tup [],lh',w,φ,?_,fr,PExt.refl _,H.upd fr (fun m hm => same _ (fun h => hm h.symm)) (fun pb' hp' => ?_) (fun b hb => H.new b (by simpa [lh'] using hb)),E.mono (PExt.refl _) fr (fun i => same _ (fun h => by cases h)),.tup [] [] rfl (fun i v l h => by simp at h),Tok.no fun r hr => by cases hr⟩
      · simp only [opE,hlf,if_true,hl,if_neg h0,g1]
        rw [if_pos ⟨trivial,Nat.zero_le _,by rw [← g2.1]; exact hle⟩,hlout]
        simp only [hlen,hsc,and_self,if_true]
        rfl
      · rw [hp] at hp'; cases hp'
        have hl1 := g2.1
        refine ⟨true,_,List.getElem?_set_self hpb,(g2.mono (PExt.refl _) fr).splice hov off,?_,?_⟩
        · refine lowL_of fun y hy => ?_
          unfold vsplice at hy
          rcases List.mem_append.1 hy with hy | hy
          · rcases List.mem_append.1 hy with hy | hy
            · exact lowL_mem g3 y (List.mem_of_mem_take hy)
            · exact scal_low (hscal y hy)
          · exact lowL_mem g3 y (List.mem_of_mem_drop hy)
        · rw [if_pos ⟨hrw,hlo⟩]
          refine ⟨rfl,g5,fun i y ly hy hly => ?_⟩
          have old : ∀ (j : Nat),cs[j]? = some y → lcs[j]? = some ly → Tok w lh' (.cell n j) y ly := fun j a1 a2 =>
            (g6 j y ly a1 a2).mono ⟨φ,g2.2 j y ly a1 a2⟩ fr (same _ (fun e => by cases e))
          unfold vsplice at hy
          unfold Lg.splice at hly
          rcases Nat.lt_or_ge i off with hi | hi
          · rw [List.append_assoc,List.getElem?_append_left (by simp; omega),List.getElem?_take,if_pos hi] at hy hly
            exact old i hy hly
          · rcases Nat.lt_or_ge i (off + len * es') with hj | hj
            · obtain ⟨j,rfl⟩ : ∃ j,i = off + j := ⟨i - off,by omega⟩
              rw [List.append_assoc,List.getElem?_append_right (by simp; omega)] at hy
              simp only [List.length_take,Nat.min_eq_left (show off ≤ cs.length by omega),Nat.add_sub_cancel_left] at hy
              rw [List.getElem?_append_left (by omega)] at hy
              have hs := hscal y (List.mem_of_getElem? hy)
              exact Tok.no fun r hr => by rw [hr] at hs; cases hs
            · rw [List.getElem?_append_right (by rw [List.length_append,hvl,List.length_take]; omega),List.getElem?_drop] at hy
              rw [List.getElem?_append_right (by rw [List.length_append,hlen,List.length_take]; omega),List.getElem?_drop] at hly
              rw [List.length_append,hvl,List.length_take] at hy
              rw [List.length_append,hlen,List.length_take] at hly
              have e1 : off + len * es' + (i - (min off cs.length + len * es')) = i := by omega
              have e2 : off + len * es' + (i - (min off lcs.length + len * es')) = i := by omega
              rw [e1] at hy; rw [e2] at hly
              exact old i hy hly
  · cases hE
theorem sim_capL {x : X} (H : HS lo w φ vh lh) (E : ES w φ lh env lenv) (hE : opV cf lo (.capL x) env vh = some (v,vh')) : OpRes lcf lo w φ env lenv lh (.capL x) d v vh' := by
  simp only [opV] at hE
  have hx := E.x x
  split at hE
  case h_2 => cases hE
  rename_i r hv
  cases hE
  rw [hv] at hx
  generalize hl : x.ev lenv = l at hx
  cases hx with
  | nil => exact OpRes.val H E rfl (l := .int .i64 0) (by simp only [opE,hl]) (.int _ _) (fun r hr => by cases hr)
  | list0 m n off es full hm => exact OpRes.val H E rfl (l := .int .i64 0) (by simp only [opE,hl,hm rfl,if_true]; rfl) (.int _ _) (fun r hr => by cases hr)
  | list hw hb hl' hm hr hh => exact OpRes.val H E rfl (l := .int .i64 r.length) (by simp only [opE,hl,hm rfl,if_true]) (.int _ _) (fun r hr => by cases hr)
theorem sim_concat {es bytes : Nat} {x : X} (H : HS lo w φ vh lh) (E : ES w φ lh env lenv) (hE : opV cf lo (.concat es bytes x) env vh = some (v,vh')) : OpRes lcf lo w φ env lenv lh (.concat es bytes x) d v vh' := by
  simp only [opV] at hE
  have hx := E.x x
  split at hE
  case h_2 => cases hE
  rename_i m a b hvx
  split at hE
  case h_2 => cases hE
  rename_i ra rb ha hb
  split at hE
  case isFalse => cases hE
  rename_i hsz
  cases hE
  rw [hvx] at hx
  generalize hl : x.ev lenv = l at hx
  generalize hrr : [[a],[b]] = rr at hx
  cases hx with
  | nil => cases hrr
  | list0 => cases hrr
  | @list _ rows q off es1 full rw lcs hw hbk hle hm hr hh =>
    subst hrr
    have hes : es1 = 1 := (hr [a] (by simp)).1.symm
    subst hes
    obtain ⟨la,hla⟩ : ∃ la,lcs[off]? = some la := ⟨_,List.getElem?_eq_getElem (by simp at hle; omega)⟩
    obtain ⟨lb,hlb⟩ : ∃ lb,lcs[off + 1]? = some lb := ⟨_,List.getElem?_eq_getElem (by simp at hle; omega)⟩
    obtain ⟨ca,hsa,hata⟩ := rows_src H (hh 0 [a] 0 a la rfl rfl (by simpa using hla)) ha
    obtain ⟨cb,hsb,hatb⟩ := rows_src H (hh 1 [b] 0 b lb rfl rfl (by simpa using hlb)) hb
    by_cases h0 : ra.length + rb.length = 0
    · have e1 : ra = [] := List.length_eq_zero_iff.1 (by omega)
      have e2 : rb = [] := List.length_eq_zero_iff.1 (by omega)
      refine OpRes.val H E rfl (l := .nilslice) ?_ (by rw [e1,e2]; exact .nil _) (fun r hr => by cases hr)
      simp only [opE,hl,List.length_cons,List.length_nil,hbk,hla,hlb,hsa,hsb,h0,if_true]
    · obtain ⟨X,hX⟩ : ∃ X : Heap,X = if ra.length = 0 ∨ rb.length = 0 then [.dead] else [.dead,.dead] := ⟨_,rfl⟩
      have hXl : X.length = if ra.length = 0 ∨ rb.length = 0 then 1 else 2 := by rw [hX]; split <;> rfl
      have fr : Fr w lh w (lh ++ (X ++ [.cells true (ca ++ cb)])) := fr_app
      have hat := (hata.mono (PExt.refl φ) fr).append (hatb.mono (PExt.refl φ) fr)
      refine ⟨.slice (lh.length + X.length) 0 (ra.length + rb.length) es false,lh ++ (X ++ [.cells true (ca ++ cb)]),w,φ,?_,fr,PExt.refl _,H.mono fr (fun _ => same_app) (fun b hb => H.new b (by simp at hb; omega)),E.mono (PExt.refl _) fr (fun _ => same_app),?_,Tok.no fun r hr => by cases hr⟩
      · simp only [opE,hl,List.length_cons,List.length_nil,hbk,hla,hlb,hsa,hsb,if_neg h0,if_pos hsz,hXl,← hX,List.append_assoc]
      · have hget : (lh ++ (X ++ [LBlk.cells true (ca ++ cb)]))[lh.length + X.length]? = some (.cells true (ca ++ cb)) := by
          rw [← List.append_assoc,← List.length_append]; exact List.getElem?_concat_length
        have := hat.list (b := lh.length + X.length) (off := 0) (rw := true) (m := .s) (full := false) (H.new _ (Nat.le_add_right _ _)) (lcs := ca ++ cb) hget (Nat.zero_le _) (by rw [List.drop_zero,List.take_of_length_le (by rw [hat.len]; exact Nat.le_refl _)]) (fun h => by cases h)
        rwa [List.length_append] at this
theorem skey_sc {k : VV} (h : skey k = true) : k.sc ≠ .undef := by
  cases k <;> simp [skey] at h <;> simp [VV.sc]
theorem skey_simple {k : VV} (h : skey k = true) : simpleKey k.sc = true := by
  cases k <;> simp [skey] at h <;> rfl
theorem keyV_sc {a b : VV} {r : Bool} (h : keyV a b = some r) : keyEq a.sc b.sc = some r := by
  unfold keyV at h
  split at h <;> first | exact h | cases h

/-- Two maps,entry by entry. -/
def EsR (w : Own) (φ : List Nat) (lh : Heap) (es : List (VV × VV)) (les : List (LV × LV)) : Prop := es.length = les.length ∧ ∀ (i : Nat) (e : VV × VV) (le : LV × LV),es[i]? = some e → les[i]? = some le → e.1.sc = le.1 ∧ skey e.1 = true ∧ RV w φ lh e.2 le.2 ∧ e.2.low 0 = true
theorem EsR.uncons {e : VV × VV} {le : LV × LV} {es : List (VV × VV)} {les : List (LV × LV)} (h : EsR w φ lh (e :: es) (le :: les)) : (e.1.sc = le.1 ∧ skey e.1 = true ∧ RV w φ lh e.2 le.2 ∧ e.2.low 0 = true) ∧ EsR w φ lh es les :=
  ⟨h.2 0 e le rfl rfl,by have := h.1; simpa using this,fun i a b ha hb => h.2 (i + 1) a b (by simpa using ha) (by simpa using hb)⟩
theorem EsR.cons {e : VV × VV} {le : LV × LV} {es : List (VV × VV)} {les : List (LV × LV)} (h1 : e.1.sc = le.1 ∧ skey e.1 = true ∧ RV w φ lh e.2 le.2 ∧ e.2.low 0 = true) (h : EsR w φ lh es les) : EsR w φ lh (e :: es) (le :: les) :=
  ⟨by simp [h.1],fun i a b ha hb => by
    cases i with
    | zero => simp at ha hb; subst ha; subst hb; exact h1
    | succ i => exact h.2 i a b (by simpa using ha) (by simpa using hb)⟩
theorem find_rv {k : VV} : ∀ {es : List (VV × VV)} {les : List (LV × LV)} {r : Option VV},EsR w φ lh es les → findV k es = some r → ∃ lr,findE k.sc les = some lr ∧ ((r = none ∧ lr = none) ∨ ∃ v l,r = some v ∧ lr = some l ∧ RV w φ lh v l)
  | [],[],r,h,hf => by simp only [findV,Option.some.injEq] at hf; subst hf; exact ⟨none,rfl,.inl ⟨rfl,rfl⟩⟩
  | [],_ :: _,_,h,_ => by have := h.1; simp at this
  | _ :: _,[],_,h,_ => by have := h.1; simp at this
  | (k',v) :: es,(lk,lv) :: les,r,h,hf => by
    obtain ⟨⟨h1,h2,h3,h4⟩,h5⟩ := h.uncons
    simp only at h1
    simp only [findV] at hf
    split at hf
    · rename_i hk
      have := keyV_sc hk
      rw [h1] at this
      simp only [Option.some.injEq] at hf; subst hf
      exact ⟨some lv,by simp only [findE,this],.inr ⟨v,lv,rfl,rfl,h3⟩⟩
    · rename_i hk
      have := keyV_sc hk
      rw [h1] at this
      obtain ⟨lr,h6,h7⟩ := find_rv h5 hf
      exact ⟨lr,by simp only [findE,this]; exact h6,h7⟩
    · cases hf
theorem upd_rv {k v : VV} {lv : LV} (hk : skey k = true) (hv : RV w φ lh v lv) (hl : v.low 0 = true) : ∀ {es es' : List (VV × VV)} {les : List (LV × LV)},EsR w φ lh es les → updV k v es = some es' → ∃ les',updE k.sc lv les = some les' ∧ EsR w φ lh es' les'
  | [],es',[],h,hf => by
    simp only [updV,Option.some.injEq] at hf; subst hf
    exact ⟨_,rfl,.cons ⟨rfl,hk,hv,hl⟩ h⟩
  | [],_,_ :: _,h,_ => by have := h.1; simp at this
  | _ :: _,_,[],h,_ => by have := h.1; simp at this
  | (k',v') :: es,es',(lk,lv') :: les,h,hf => by
    obtain ⟨⟨h1,h2,h3,h4⟩,h5⟩ := h.uncons
    simp only at h1
    simp only [updV] at hf
    split at hf
    · rename_i hkk
      have := keyV_sc hkk
      rw [h1] at this
      simp only [Option.some.injEq] at hf; subst hf
      exact ⟨(lk,lv) :: les,by simp only [updE,this],.cons ⟨h1,h2,hv,hl⟩ h5⟩
    · rename_i hkk
      have := keyV_sc hkk
      rw [h1] at this
      split at hf
      case h_2 => cases hf
      rename_i r' hr'
      simp only [Option.some.injEq] at hf; subst hf
      obtain ⟨les',h6,h7⟩ := upd_rv hk hv hl h5 hr'
      exact ⟨(lk,lv') :: les',by simp only [updE,this,h6],.cons ⟨h1,h2,h3,h4⟩ h7⟩
    · cases hf

theorem sim_mkmap (H : HS lo w φ vh lh) (E : ES w φ lh env lenv) (hE : opV cf lo .mkmap env vh = some (v,vh')) : OpRes lcf lo w φ env lenv lh .mkmap d v vh' := by
  simp only [opV,Option.some.injEq,Prod.mk.injEq] at hE
  obtain ⟨rfl,rfl⟩ := hE
  have fr := own1_fr (w := w) (lh := lh) (o := .blk vh.length) (x := [.map []]) (Nat.le_refl _)
  refine ⟨.map lh.length,_,own1 w lh.length (.blk vh.length),φ ++ [lh.length],rfl,fr,PExt.app _ _,H.push fr (fun m _ => own1_same (Nat.le_refl _)) ⟨[],List.getElem?_concat_length,rfl,fun i e le h => by simp at h,?_⟩ (fun b hb => ?_),E.mono (PExt.app _ _) fr fun i => own1_same (Nat.le_refl _),.map (by rw [← H.len]; exact List.getElem?_concat_length),Tok.no fun r hr => by cases hr⟩
  · rw [if_pos H.lol]; simp [own1]
  · simp only [List.length_append,List.length_singleton] at hb
    unfold own1; rw [if_neg (by omega)]; exact H.new b (by omega)

theorem sim_lookup {zero : LV} {ok : Bool} {m k : X} (H : HS lo w φ vh lh) (E : ES w φ lh env lenv) (hE : opV cf lo (.lookup zero ok m k) env vh = some (v,vh')) : OpRes lcf lo w φ env lenv lh (.lookup zero ok m k) d v vh' := by
  simp only [opV] at hE
  split at hE
  case isFalse => cases hE
  rename_i hk
  have hkl := (E.x k).sc (skey_sc hk)
  have hm := E.x m
  have zr : ∀ (w : Own) (φ : List Nat) (lh : Heap),RV w φ lh (if ok then .tup [ofLV zero,.bool false] else ofLV zero) (if ok then .tup [zero,.bool false] else zero) := by
    intro w φ lh
    cases ok with
    | true => exact (RVs.cons (ofLV_rv _ _ _ _) (.cons (.bool _) .nil)).tup
    | false => exact ofLV_rv _ _ _ _
  have zn : ∀ r,(if ok then VV.tup [ofLV zero,.bool false] else ofLV zero) ≠ .list .o r := by
    intro r; cases ok with
    | true => exact fun h => by cases h
    | false => exact ofLV_ne zero r
  split at hE
  · rename_i hmm
    cases hE
    rw [hmm] at hm
    generalize hl : m.ev lenv = l at hm
    cases hm
    exact OpRes.val H E rfl (by simp only [opE,hkl,hl]; rw [if_pos (skey_simple hk)]) (zr _ _ _) zn
  · rename_i n hmm
    rw [hmm] at hm
    generalize hl : m.ev lenv = l at hm
    cases hm with
    | map hp =>
    split at hE
    case h_2 => cases hE
    rename_i es hn
    obtain ⟨les,h1,h2,h3,h4⟩ := H.blk n _ _ hn hp
    have hes : EsR w φ lh es les := ⟨h2,h3⟩
    split at hE
    · rename_i v0 hf
      cases hE
      obtain ⟨lr,h5,h6⟩ := find_rv hes hf
      rcases h6 with ⟨h6,_⟩ | ⟨v1,l1,h6,rfl,h8⟩
      · cases h6
      cases h6
      refine OpRes.val H E rfl (l := if ok then .tup [l1,.bool true] else l1) ?_ ?_ ?_
      · simp only [opE,hkl,hl,h1,h5]; rw [if_pos (skey_simple hk)]
      · cases ok with
        | true => exact (RVs.cons h8 (.cons (.bool _) .nil)).tup
        | false => exact h8.sh
      · intro r; cases ok with
        | true => exact fun h => by cases h
        | false => exact sh_ne _ r
    · rename_i hf
      cases hE
      obtain ⟨lr,h5,h6⟩ := find_rv hes hf
      rcases h6 with ⟨_,rfl⟩ | ⟨v1,l1,h6,_⟩
      · exact OpRes.val H E rfl (by simp only [opE,hkl,hl,h1,h5]; rw [if_pos (skey_simple hk)]) (zr _ _ _) zn
      · cases h6
    · cases hE
  · cases hE

theorem sim_update {m k x : X} (H : HS lo w φ vh lh) (E : ES w φ lh env lenv) (hE : opV cf lo (.update m k x) env vh = some (v,vh')) : OpRes lcf lo w φ env lenv lh (.update m k x) d v vh' := by
  simp only [opV] at hE
  split at hE
  case isFalse => cases hE
  rename_i hk
  have hkl := (E.x k).sc (skey_sc hk)
  have hm := E.x m
  split at hE
  case h_2 => cases hE
  rename_i n hmm
  rw [hmm] at hm
  generalize hl : m.ev lenv = l at hm
  cases hm with
  | @map _ pb hp =>
  split at hE
  case h_2 => cases hE
  rename_i es hn
  split at hE
  case isFalse => cases hE
  rename_i hc
  split at hE
  case h_2 => cases hE
  rename_i es' hu
  simp only [Option.some.injEq,Prod.mk.injEq] at hE
  obtain ⟨rfl,rfl⟩ := hE
  obtain ⟨les,h1,h2,h3,h4⟩ := H.blk n _ _ hn hp
  rw [if_pos hc.1] at h4
  obtain ⟨les',h5,h6⟩ := upd_rv hk (E.xs x) hc.2 ⟨h2,h3⟩ hu
  let lh' := lh.set pb (.map les')
  have keep : ∀ q,q ≠ pb → lh'[q]? = lh[q]? := fun q hq => List.getElem?_set_ne (fun e => hq e.symm)
  have fr : Fr w lh w lh' := ⟨by simp [lh'],fun q hq hw => ⟨hw,keep q (by rintro rfl; rw [h4] at hw; cases hw)⟩,fun q hq hw => ⟨hw,keep q (by rintro rfl; rw [h4] at hw; cases hw)⟩⟩
  have same : ∀ P : Owner → Prop,¬ P (.blk n) → Same P w lh w lh' := fun P hp2 q y hq hw hy => ⟨hw,keep q (by rintro rfl; rw [h4] at hw; cases hw; exact hp2 hy)⟩
  refine ⟨.tup [],lh',w,φ,?_,fr,PExt.refl _,H.upd fr (fun m hm => same _ (fun h => hm h.symm)) (fun pb' hp' => ?_) (fun b hb => H.new b (by simpa [lh'] using hb)),E.mono (PExt.refl _) fr (fun i => same _ (fun h => by cases h)),RVs.nil.tup,Tok.no fun r hr => by cases hr⟩
  · simp only [opE,hkl,hl,h1,h5]; rw [if_pos (skey_simple hk),if_pos (Nat.zero_le _)]
  · rw [hp] at hp'; cases hp'
    refine ⟨les',List.getElem?_set_self (lt_of_getElem? h1),h6.1,fun i e le a b => ⟨(h6.2 i e le a b).1,(h6.2 i e le a b).2.1,(h6.2 i e le a b).2.2.1.mono (PExt.refl _) fr,(h6.2 i e le a b).2.2.2⟩,?_⟩
    rw [if_pos hc.1]; exact h4

def OpResS (cs : CallS) (lo : Nat) (w : Own) (φ : List Nat) (env : VEnv) (lenv : Env) (vh : VHeap) (lh : Heap) (op : LOp) (d : Nat) (v : VV) (vh' : VHeap) : Prop :=
  opS cs op lenv lh fun l lh' => ∃ w' φ',Fr w lh w' lh' ∧ PExt φ φ' ∧ HS lo w' φ' vh' lh' ∧ ES w' φ' lh' (post op env vh) lenv ∧ RV w' φ' lh' v l ∧ Tok w' lh' (.env d) v l

/-- What is said of calls may be said less of. -/
def CsMono (cs : CallS) : Prop := ∀ f args h (Q Q' : LV → Heap → Prop),(∀ v h,Q v h → Q' v h) → cs f args h Q → cs f args h Q'

variable {cs : CallS}
theorem sim_call (hm : CsMono cs) {f : FuncId} {args : List VV} {largs : List LV} {op : LOp} (hcf : CallSim cf cs) (hs : loses op = none) (hms : isStore op = false) (hop : ∀ Q,cs f largs lh Q → opS cs op lenv lh Q) (H : HS lo w φ vh lh) (E : ES w φ lh env lenv) (hr : RVs w φ lh args largs) (hE : cf lo f args vh = some (v,vh')) : OpResS cs lo w φ env lenv vh lh op d v vh' := by
  refine hop _ (hm _ _ _ _ _ ?_ (hcf lo f args vh v vh' hE w φ largs lh d H hr))
  rintro l lh' ⟨w',φ',h2,h3,h4,h5,h6,h7⟩
  refine ⟨w',φ',h2,h4,h5,?_,h6,h7⟩
  rw [post_eq hms]; unfold strip; rw [hs]
  exact E.monoT h4 h2 h3

/-- A call that has nothing to do with the blocks. -/
theorem sim_callpu (hm : CsMono cs) {f : FuncId} {args : List VV} {largs : List LV} {op : LOp} {h0 : VHeap} (hcf : CallSim cf cs) (hs : loses op = none) (hms : isStore op = false) (hop : ∀ Q,cs f largs lh Q → opS cs op lenv lh Q) (H : HS lo w φ vh lh) (E : ES w φ lh env lenv) (hr : RVs w φ lh args largs) (hlow : lowL 0 args = true) (hv : v.low 0 = true)
    (hE : cf 0 f args [] = some (v,h0)) : OpResS cs lo w φ env lenv vh lh op d v vh := by
  let isB : Option Owner → Bool := fun x => match x with
    | some (.blk _) | some (.cell _ _) => true
    | _ => false
  let w1 : Own := fun b => if isB (w b) then some .ext else w b
  have h1n : ∀ b,w b = none → w1 b = none := fun b hb => by simp only [w1,hb,isB]; rfl
  have hr1 : RVs w1 [] lh args largs := hr.tr hlow (fun n b hn => absurd hn (Nat.not_lt_zero n)) fun b x hb _ hw => ⟨h1n b hw,hb⟩
  refine hop _ (hm _ _ _ _ _ ?_ (hcf 0 f args [] v h0 hE w1 [] largs lh d ⟨rfl,Nat.zero_le _,fun n b pb hb => by simp at hb,fun b hb => h1n b (H.new b hb)⟩ hr1))
  rintro l lh' ⟨w',φ',h2,h3,h4,h5,h6,h7⟩
  let w2 : Own := fun b => if isB (w b) then w b else if isB (w' b) then none else w' b
  have hK : ∀ b,isB (w b) = true → b < lh.length := fun b hb => by
    rcases Nat.lt_or_ge b lh.length with h | h
    · exact h
    · rw [H.new b h] at hb; cases hb
  have hKx : ∀ b,isB (w b) = true → w' b = some .ext ∧ lh'[b]? = lh[b]? := fun b hb => h2.ext b (hK b hb) (by simp only [w1,hb,if_true])
  have fr : Fr w lh w2 lh' := ⟨h2.le,fun b hb hw => by
    have h8 := h2.keep b hb (h1n b hw)
    refine ⟨?_,h8.2⟩
    simp only [w2,hw,h8.1,isB,Bool.false_eq_true,if_false],fun b hb hw => by
    have h8 := h2.ext b hb (by simp only [w1,hw,isB,Bool.false_eq_true,if_false])
    refine ⟨?_,h8.2⟩
    simp only [w2,hw,h8.1,isB,Bool.false_eq_true,if_false]⟩
  have fw : Fw w' lh' w2 lh' := fun b x hb _ hw => by
    refine ⟨?_,hb⟩
    by_cases hk : isB (w b) = true
    · rw [(hKx b hk).1] at hw; cases hw
    · simp only [w2,if_neg hk,hw,isB]; rfl
  refine ⟨w2,φ,fr,PExt.refl _,H.mono fr (fun n b x hb hw hx => ?_) (fun b hb => ?_),?_,h6.tr hv (fun n b hn => absurd hn (Nat.not_lt_zero n)) fw,?_⟩
  · have hk : isB (w b) = true := by rw [hw]; cases x <;> first | rfl | cases hx
    exact ⟨by simp only [w2,if_pos hk]; exact hw,(hKx b hk).2⟩
  · have h8 := h5.new b hb
    simp only [w2]
    rw [if_neg (fun h => by have := hK b h; have := h2.le; omega),h8]; rfl
  · rw [post_eq hms]; unfold strip; rw [hs]
    refine E.monoT (PExt.refl _) fr fun i b x m u hb hw hx => ?_
    subst hx
    have h8 := h3 i b _ m u hb (by simp only [w1,hw,isB,Bool.false_eq_true,if_false]) rfl
    refine ⟨?_,h8.2⟩
    simp only [w2,hw,h8.1,isB,Bool.false_eq_true,if_false]
  · intro r hr'
    rcases h7 r hr' with h | h | ⟨n,off,len,es,lcs,q1,q2,q3,q4,q5⟩
    · exact .inl h
    · exact .inr (.inl h)
    · refine .inr (.inr ⟨n,off,len,es,lcs,q1,q2,q3,?_,q5⟩)
      have hk : ¬ isB (w (n + 1)) = true := fun hk => by rw [(hKx _ hk).1] at q4; cases q4
      simp only [w2,if_neg hk,q4,isB,Bool.false_eq_true,if_false]

theorem OpRes.s {op : LOp} (h : OpRes noCall lo w φ env lenv lh op d v vh') (hop : ∀ Q,(∃ l h',opE noCall 0 op lenv lh = some (l,h') ∧ Q l h') → opS cs op lenv lh Q) (hms : isStore op = false := by rfl) : OpResS cs lo w φ env lenv vh lh op d v vh' := by
  obtain ⟨l,lh',w',φ',h1,h2⟩ := h
  exact hop _ ⟨l,lh',h1,w',φ',by rw [post_eq hms]; exact h2⟩
theorem OpResP.s {op : LOp} (h : OpResP noCall lo w φ env lenv vh lh op d v vh') (hop : ∀ Q,(∃ l h',opE noCall 0 op lenv lh = some (l,h') ∧ Q l h') → opS cs op lenv lh Q) : OpResS cs lo w φ env lenv vh lh op d v vh' := by
  obtain ⟨l,lh',w',φ',h1,h2⟩ := h
  exact hop _ ⟨l,lh',h1,w',φ',h2⟩

/-- Every operation. -/
theorem op_sim (hm : CsMono cs) (hcf : CallSim cf cs) {op : LOp} (H : HS lo w φ vh lh) (E : ES w φ lh env lenv) (hE : opV cf lo op env vh = some (v,vh')) : OpResS cs lo w φ env lenv vh lh op d v vh' := by
  cases op with
  | mv => exact (sim_mv H E hE).s fun _ h => h
  | mvs => exact (sim_mvs H E hE).s fun _ h => h
  | pick => exact (sim_pick H E hE).s fun _ h => h
  | alloc => exact (sim_alloc H E hE).s fun _ h => h
  | box => exact (sim_box H E hE).s fun _ h => h
  | build => exact (sim_build H E hE).s fun _ h => h
  | bslice => exact (sim_bslice H E hE).s fun _ h => h
  | load => exact (sim_load H E hE).s fun _ h => h
  | store => exact (sim_store H E hE).s fun _ h => h
  | nilchk => exact (sim_nilchk H E hE).s fun _ h => h
  | bin => exact (sim_bin H E hE).s fun _ h => h
  | eqv => exact (sim_eqv H E hE).s fun _ h => h
  | un => exact (sim_un H E hE).s fun _ h => h
  | conv => exact (sim_conv H E hE).s fun _ h => h
  | b2s => exact (sim_b2s H E hE).s fun _ h => h
  | s2b => exact (sim_s2b H E hE).s fun _ h => h
  | slc => exact (sim_slc H E hE).s fun _ h => h
  | slcA => exact (sim_slcA H E hE).s fun _ h => h
  | fieldAddr => exact (sim_fieldAddr H E hE).s fun _ h => h
  | field => exact (sim_field H E hE).s fun _ h => h
  | indexAddr => exact (sim_indexAddr H E hE).s fun _ h => h
  | indexAddrA => exact (sim_indexAddrA H E hE).s fun _ h => h
  | index => exact (sim_index H E hE).s fun _ h => h
  | indexA => exact (sim_indexA H E hE).s fun _ h => h
  | extract => exact (sim_extract H E hE).s fun _ h => h
  | lenS => exact (sim_lenS H E hE).s fun _ h => h
  | lenL => exact (sim_lenL H E hE).s fun _ h => h
  | lenM => exact (sim_lenM H E hE).s fun _ h => h
  | lenC => exact (sim_lenC H E hE).s fun _ h => h
  | min2 xs => exact (sim_mm (b := false) rfl H E hE).s fun _ h => h
  | max2 xs => exact (sim_mm (b := true) rfl H E hE).s fun _ h => h
  | append => exact (sim_append H E hE).s fun _ h => h
  | copy => exact (sim_copy H E hE).s fun _ h => h
  | make => exact (sim_make H E hE).s fun _ h => h
  | mkmap => exact (sim_mkmap H E hE).s fun _ h => h
  | lookup => exact (sim_lookup H E hE).s fun _ h => h
  | update => exact (sim_update H E hE).s fun _ h => h
  | mkfunc => exact (sim_mkfunc H E hE).s fun _ h => h
  | call pu f args =>
    simp only [opV] at hE
    split at hE
    · split at hE
      case h_2 => cases hE
      rename_i v1 h1 hc
      split at hE
      case isFalse => cases hE
      rename_i hlow
      simp only [Option.some.injEq,Prod.mk.injEq] at hE
      obtain ⟨rfl,rfl⟩ := hE
      exact sim_callpu hm hcf rfl rfl (fun _ h => h) H E (nrmL_rv _ _ (E.args args)) hlow.1 hlow.2 hc
    · exact sim_call hm hcf rfl rfl (fun _ h => h) H E (nrmL_rv _ _ (E.args args)) hE
  | callv f args =>
    simp only [opV] at hE
    split at hE
    case h_2 => cases hE
    rename_i g caps hf
    have h := E.x f
    rw [hf] at h
    generalize hl : f.ev lenv = l at h
    cases h with
    | func _ _ ls hll hh =>
      exact sim_call hm hcf rfl rfl (fun _ h => by simp only [opS,hl]; exact h) H E (nrmL_rv _ _ ((E.args args).append ⟨hll,hh⟩)) hE
  | ext => exact (sim_ext H E hE).s fun _ h => h
  | rewr => exact (sim_rewr H E hE).s fun _ h => h
  | concat => exact (sim_concat H E hE).s fun _ h => h
  | capL => exact (sim_capL H E hE).s fun _ h => h
  | appendZ => simp [opV] at hE
  | stuck => simp [opV] at hE
end
end Vg
