/- Operations: values,blocks,loads and stores. -/
import Derived.Test.YtpoofafddbcnpaaVVgOps
namespace Vg
open Go Lg
set_option linter.unusedSimpArgs false
set_option linter.unusedVariables false
set_option maxHeartbeats 1000000
section
variable {cf : VCall} {lcf : CallF} {lo : Nat} {w : Own} {φ : List Nat} {env : VEnv} {lenv : Env} {vh vh' : VHeap} {lh : Heap} {d : Nat} {v : VV}

theorem sim_mvs {x : X} (H : HS lo w φ vh lh) (E : ES w φ lh env lenv) (hE : opV cf lo (.mvs x) env vh = some (v,vh')) : OpRes lcf lo w φ env lenv lh (.mvs x) d v vh' := by
  simp only [opV] at hE
  have h := E.x x
  split at hE
  case h_2 => cases hE
  rename_i s hs
  cases hE
  rw [hs] at h
  generalize hl : x.ev lenv = l at h
  cases h
  exact OpRes.val H E rfl (by simp only [opE,hl]) (.str _) (fun r hr => by cases hr)

theorem sim_pick {c x y : X} (H : HS lo w φ vh lh) (E : ES w φ lh env lenv) (hE : opV cf lo (.pick c x y) env vh = some (v,vh')) : OpRes lcf lo w φ env lenv lh (.pick c x y) d v vh' := by
  simp only [opV] at hE
  have h := E.x c
  split at hE
  case h_2 => cases hE
  rename_i t hs
  cases hE
  rw [hs] at h
  generalize hl : c.ev lenv = l at h
  cases h
  cases t with
  | true => exact OpRes.val H E rfl (by simp only [opE,hl,if_true]) (E.xs x) (vs_ne env x)
  | false => exact OpRes.val H E rfl (by simp only [opE,hl,Bool.false_eq_true,if_false]) (E.xs y) (vs_ne env y)

theorem sim_alloc {zs : List LV} (H : HS lo w φ vh lh) (E : ES w φ lh env lenv) (hE : opV cf lo (.alloc zs) env vh = some (v,vh')) : OpRes lcf lo w φ env lenv lh (.alloc zs) d v vh' := by
  simp only [opV,Option.some.injEq,Prod.mk.injEq] at hE
  obtain ⟨rfl,rfl⟩ := hE
  rw [ofLVs_sh]
  exact new_cells H E rfl rfl (ofLVs_rv w φ lh zs) (fun _ _ _ h => .ptr h) (fun r hr => by cases hr)

theorem ne_undef_of_single {v : VV} (h : v.cells.all VV.single = true) : v ≠ .undef := by
  rintro rfl; simp [VV.cells,VV.single] at h

theorem sim_box {x : X} (H : HS lo w φ vh lh) (E : ES w φ lh env lenv) (hE : opV cf lo (.box x) env vh = some (v,vh')) : OpRes lcf lo w φ env lenv lh (.box x) d v vh' := by
  simp only [opV] at hE
  split at hE
  case isFalse => cases hE
  rename_i hs
  simp only [Option.some.injEq,Prod.mk.injEq] at hE
  obtain ⟨rfl,rfl⟩ := hE
  have hr := (E.xs x).cells (ne_undef_of_single hs)
  exact new_cells H E rfl (by simp only [opE]; rw [if_pos (hr.single hs)]) hr (fun _ _ _ h => .ptr h) (fun r hr => by cases hr)

theorem fill_rv (E : ES w φ lh env lenv) : ∀ (ps : List (Nat × Nat × X)) (cs : List VV) (ls : List LV) (out : List VV),RVs w φ lh cs ls → fillV env cs ps = some out → ∃ lout,fillE lenv ls ps = some lout ∧ RVs w φ lh out lout
  | [],cs,ls,out,h,hf => by simp only [fillV,Option.some.injEq] at hf; subst hf; exact ⟨ls,rfl,h⟩
  | (o,s,x) :: ps,cs,ls,out,h,hf => by
    simp only [fillV] at hf
    split at hf
    case isFalse => cases hf
    rename_i hc
    obtain ⟨h1,h2,h3⟩ := hc
    have hr := (E.xs x).cells (ne_undef_of_single h3)
    obtain ⟨lout,h4,h5⟩ := fill_rv E ps _ _ out (h.splice hr o) hf
    refine ⟨lout,?_,h5⟩
    simp only [fillE]
    rw [if_pos ⟨by rw [← hr.1]; exact h1,by rw [← h.1]; exact h2,hr.single h3⟩]
    exact h4

theorem sim_build {zs : List LV} {ps : List (Nat × Nat × X)} (H : HS lo w φ vh lh) (E : ES w φ lh env lenv) (hE : opV cf lo (.build zs ps) env vh = some (v,vh')) : OpRes lcf lo w φ env lenv lh (.build zs ps) d v vh' := by
  simp only [opV] at hE
  split at hE
  case h_2 => cases hE
  rename_i cs hf
  cases hE
  obtain ⟨lout,h1,h2⟩ := fill_rv E ps _ _ cs (ofLVs_rv w φ lh zs) hf
  exact OpRes.val H E rfl (by simp only [opE,h1]) h2.agg (fun r hr => by cases hr)

theorem chunk_length (es : Nat) : ∀ (n : Nat) (cs : List VV),(chunk es n cs).length = n
  | 0,_ => rfl
  | n + 1,cs => by simp [chunk,chunk_length es n]
theorem chunk_row (es : Nat) : ∀ (n : Nat) (cs : List VV),n * es ≤ cs.length → ∀ (i : Nat) (row : List VV),(chunk es n cs)[i]? = some row → row = (cs.drop (i * es)).take es ∧ row.length = es
  | 0,_,_,i,row,h => by simp [chunk] at h
  | n + 1,cs,hl,i,row,h => by
    rw [Nat.add_mul,Nat.one_mul] at hl
    cases i with
    | zero =>
      simp only [chunk,List.getElem?_cons_zero,Option.some.injEq] at h
      subst h
      simp; omega
    | succ i =>
      simp only [chunk,List.getElem?_cons_succ] at h
      obtain ⟨h1,h2⟩ := chunk_row es n (cs.drop es) (by simp; omega) i row h
      rw [List.drop_drop] at h1
      refine ⟨?_,h2⟩
      rw [h1,Nat.add_mul,Nat.one_mul,Nat.add_comm es]

/-- Rows,as cells. -/
structure RowsAt (w : Own) (φ : List Nat) (lh : Heap) (es : Nat) (rows : List (List VV)) (cells : List LV) : Prop where
  len : cells.length = rows.length * es
  row : ∀ row ∈ rows,row.length = es ∧ lowL 0 row = true
  get : ∀ (i : Nat) (row : List VV) (j : Nat) (v : VV) (l : LV),rows[i]? = some row → row[j]? = some v → cells[i * es + j]? = some l → RV w φ lh v l

theorem chunk_at {es n : Nat} {cs : List VV} {lcs : List LV} (h : RVs w φ lh cs lcs) (hf : lowL 0 cs = true) (hn : n * es ≤ cs.length) : RowsAt w φ lh es (chunk es n cs) (lcs.take (n * es)) := by
  refine ⟨by rw [chunk_length]; have := h.1; simp; omega,fun row hr => ?_,fun i row j v l hr hv hl => ?_⟩
  · obtain ⟨i,hi⟩ := List.mem_iff_getElem?.1 hr
    obtain ⟨h1,h2⟩ := chunk_row es n cs hn i row hi
    refine ⟨h2,lowL_of fun v hv => ?_⟩
    rw [h1] at hv
    exact lowL_mem hf v (List.mem_of_mem_drop (List.mem_of_mem_take hv))
  · obtain ⟨h1,h2⟩ := chunk_row es n cs hn i row hr
    rw [h1,List.getElem?_take] at hv
    split at hv
    · rw [List.getElem?_drop] at hv
      rw [List.getElem?_take] at hl
      split at hl
      · exact h.2 _ v l hv hl
      · cases hl
    · cases hv

theorem RowsAt.append {es : Nat} {r1 r2 : List (List VV)} {c1 c2 : List LV} (h1 : RowsAt w φ lh es r1 c1) (h2 : RowsAt w φ lh es r2 c2) : RowsAt w φ lh es (r1 ++ r2) (c1 ++ c2) := by
  refine ⟨by simp [h1.len,h2.len,Nat.add_mul],fun row hr => ?_,fun i row j v l hr hv hl => ?_⟩
  · rcases List.mem_append.1 hr with h | h
    · exact h1.row row h
    · exact h2.row row h
  · rcases Nat.lt_or_ge i r1.length with hi | hi
    · rw [List.getElem?_append_left hi] at hr
      have hj := lt_of_getElem? hv
      rw [(h1.row row (List.mem_of_getElem? hr)).1] at hj
      have hlt : i * es + j < r1.length * es := by
        have : (i + 1) * es ≤ r1.length * es := Nat.mul_le_mul_right _ hi
        rw [Nat.add_mul,Nat.one_mul] at this
        omega
      rw [List.getElem?_append_left (by rw [h1.len]; exact hlt)] at hl
      exact h1.get i row j v l hr hv hl
    · rw [List.getElem?_append_right hi] at hr
      obtain ⟨k,rfl⟩ : ∃ k,i = r1.length + k := ⟨i - r1.length,by omega⟩
      rw [Nat.add_sub_cancel_left] at hr
      rw [List.getElem?_append_right (by rw [h1.len,Nat.add_mul]; omega),h1.len,Nat.add_mul,show r1.length * es + k * es + j - r1.length * es = k * es + j by omega] at hl
      exact h2.get k row j v l hr hv hl
theorem RowsAt.mono {es : Nat} {r : List (List VV)} {c : List LV} {w' : Own} {φ' : List Nat} {lh' : Heap} (h : RowsAt w φ lh es r c) (hp : PExt φ φ') (fr : Fr w lh w' lh') : RowsAt w' φ' lh' es r c :=
  ⟨h.len,h.row,fun i row j v l a b c => (h.get i row j v l a b c).mono hp fr⟩
/-- A list of rows that lie in a block which nobody holds. -/
theorem RowsAt.list {es b : Nat} {rows : List (List VV)} {cells lcs : List LV} {m : LMode} {full rw : Bool} {off : Nat} (h : RowsAt w φ lh es rows cells) (hw : w b = none) (hb : lh[b]? = some (.cells rw lcs)) (ho : off ≤ lcs.length) (hc : (lcs.drop off).take (rows.length * es) = cells) (hm : m = .f → full = true) : RV w φ lh (.list m rows) (.slice b off rows.length es full) := by
  have hl := h.len
  rw [← hc] at hl
  simp only [List.length_take,List.length_drop] at hl
  refine .list hw hb (by omega) hm h.row (fun i row j v l hrow hv hl => h.get i row j v l hrow hv ?_)
  · have hj := lt_of_getElem? hv
    rw [(h.row row (List.mem_of_getElem? hrow)).1] at hj
    have hi := lt_of_getElem? hrow
    have : (i + 1) * es ≤ rows.length * es := Nat.mul_le_mul_right _ hi
    rw [Nat.add_mul,Nat.one_mul] at this
    rw [← hc,List.getElem?_take,if_pos (by omega),List.getElem?_drop]
    rw [Nat.add_assoc] at hl
    exact hl

theorem sim_bslice {mt : Bool} {len es : Nat} {zs : List LV} {ps : List (Nat × Nat × X)} (H : HS lo w φ vh lh) (E : ES w φ lh env lenv) (hE : opV cf lo (.bslice mt len es zs ps) env vh = some (v,vh')) : OpRes lcf lo w φ env lenv lh (.bslice mt len es zs ps) d v vh' := by
  simp only [opV] at hE
  split at hE
  case h_2 => cases hE
  rename_i cs hf
  obtain ⟨lout,h1,h2⟩ := fill_rv E ps _ _ cs (ofLVs_rv w φ lh zs) hf
  split at hE
  · simp only [Option.some.injEq,Prod.mk.injEq] at hE
    obtain ⟨rfl,rfl⟩ := hE
    exact new_cells (l := .slice lh.length 0 len es true) H E rfl (by simp only [opE,h1]) h2 (fun _ _ _ h => .hs h) (fun r hr => by cases hr)
  · split at hE
    case isFalse => cases hE
    rename_i hc
    simp only [Option.some.injEq,Prod.mk.injEq] at hE
    obtain ⟨rfl,rfl⟩ := hE
    have fr : Fr w lh w (lh ++ [.cells true lout]) := fr_app
    refine ⟨.slice lh.length 0 len es true,lh ++ [.cells true lout],w,φ,by simp only [opE,h1],fr,PExt.refl _,H.mono fr (fun _ => same_app) (fun b hb => H.new b (by simp at hb; omega)),E.mono (PExt.refl _) fr (fun _ => same_app),?_,Tok.no fun r hr => by cases hr⟩
    have hcl : (nrmL cs).length = len * es := by rw [nrmL_length]; exact hc.2
    have hll : lout.length = len * es := by rw [← h2.1]; exact hc.2
    have hat := chunk_at (es := es) (n := len) ((nrmL_rv cs lout h2).mono (PExt.refl φ) fr) (by rw [nrmL_low]; exact hc.1) (by omega)
    rw [List.take_of_length_le (by omega)] at hat
    have := hat.list (b := lh.length) (off := 0) (rw := true) (m := .f) (full := true) (H.new _ (Nat.le_refl _)) (lcs := lout) List.getElem?_concat_length (Nat.zero_le _) (by rw [chunk_length,List.drop_zero,List.take_of_length_le (by omega)]) (fun _ => rfl)
    rwa [chunk_length] at this

theorem HS.cells (H : HS lo w φ vh lh) {n pb : Nat} {rw : Bool} {cs : List VV} (hn : vh[n]? = some (.cells rw cs)) (hp : φ[n]? = some pb) : ∃ lrw lcs,lh[pb]? = some (.cells lrw lcs) ∧ RVs w φ lh cs lcs ∧ lowL (n + 1) cs = true ∧
      if rw = true ∧ lo ≤ n then lrw = true ∧ w pb = some (.blk n) ∧ ∀ (i : Nat) (v : VV) (l : LV),cs[i]? = some v → lcs[i]? = some l → Tok w lh (.cell n i) v l else (w pb = none ∨ w pb = some .ext) := H.blk n _ pb hn hp

theorem sim_load {m ag : Bool} {n : Nat} {a : X} (H : HS lo w φ vh lh) (E : ES w φ lh env lenv) (hE : opV cf lo (.load m ag n a) env vh = some (v,vh')) : OpRes lcf lo w φ env lenv lh (.load m ag n a) d v vh' := by
  simp only [opV] at hE
  have h := E.x a
  split at hE
  · rename_i b off ha
    rw [ha] at h
    generalize hl : a.ev lenv = l at h
    cases h with
    | @ptr _ _ pb hp =>
    split at hE
    case h_2 => cases hE
    rename_i rw cs hb
    obtain ⟨lrw,lcs,h1,h2,h3,h4⟩ := H.cells hb hp
    split at hE
    · rename_i hag
      split at hE
      case isFalse => cases hE
      rename_i hle
      cases hE
      refine OpRes.val H E rfl (by simp only [opE,hl,h1,hag,if_true]; rw [if_pos (by rw [← h2.1]; exact hle)]) (((h2.drop off).take n).map (fun v l h => h.sh)).agg (fun r hr => by cases hr)
    · rename_i hag
      split at hE
      case h_2 => cases hE
      rename_i v0 hv0
      obtain ⟨l0,hl0,hr0⟩ := h2.get hv0
      have hop : opE lcf 0 (.load m ag n a) lenv lh = some (l0,lh) := by simp only [opE,hl,h1,if_neg hag,hl0]
      split at hE
      · split at hE
        case isFalse => cases hE
        rename_i hm hc
        simp only [Option.some.injEq,Prod.mk.injEq] at hE
        obtain ⟨rfl,rfl⟩ := hE
        rw [if_pos hc] at h4
        obtain ⟨h5,h6,h7⟩ := h4
        obtain ⟨w',fr,hk,ht,hn⟩ := (h7 off v0 l0 hv0 hl0).move (o2 := .env d) H.new (by simp)
        refine ⟨l0,lh,w',φ,hop,fr,PExt.refl _,H.upd fr (fun k hkb => Same.of_keep hk fun h => hkb h.symm) (fun pb' hp' => ?_) hn,?_,(hr0.mono (PExt.refl _) fr).ow,Tok.ow (hr0.mono (PExt.refl _) fr) ht⟩
        · rw [hp] at hp'; cases hp'
          refine ⟨lrw,lcs,h1,?_,?_,?_⟩
          · refine ⟨by simp [h2.1],fun i v l hv hl => ?_⟩
            rw [List.getElem?_set] at hv
            split at hv
            · rename_i e; subst e
              split at hv
              · cases hv; rw [hl0] at hl; cases hl; exact (hr0.mono (PExt.refl _) fr).sh
              · cases hv
            · exact (h2.2 i v l hv hl).mono (PExt.refl _) fr
          · refine lowL_of fun v hv => ?_
            rcases List.mem_or_eq_of_mem_set hv with hv | rfl
            · exact lowL_mem h3 v hv
            · rw [low_sh]; exact lowL_get h3 hv0
          · rw [if_pos hc]
            refine ⟨h5,hk pb _ (fun e => by cases e) h6,fun i v l hv hl => ?_⟩
            rw [List.getElem?_set] at hv
            split at hv
            · rename_i e; subst e
              split at hv
              · cases hv; exact Tok.no (sh_ne _)
              · cases hv
            · rename_i e
              exact (h7 i v l hv hl).mono ⟨φ,h2.2 i v l hv hl⟩ fr (Same.of_keep hk fun x => e (by cases x; rfl))
        · exact E.mono (PExt.refl _) fr fun i => Same.of_keep hk fun x => by cases x
      · cases hE
        exact OpRes.val H E rfl hop hr0.sh (sh_ne _)
  · rename_i cs off ha
    rw [ha] at h
    generalize hl : a.ev lenv = l at h
    cases h with
    | @cptr _ b base _ rw lcs hw hb hle hf hh =>
    split at hE
    · rename_i hag
      split at hE
      case isFalse => cases hE
      rename_i hle2
      cases hE
      refine OpRes.val H E rfl (l := .agg ((lcs.drop (base + off)).take n)) (by simp only [opE,hl,hb,hag,if_true]; rw [if_pos (by omega)]) ?_ (fun r hr => by cases hr)
      refine RVs.agg ⟨by simp; omega,fun i v l hv hl => ?_⟩
      rw [List.getElem?_take] at hv hl
      split at hv
      · rename_i hi
        rw [if_pos hi] at hl
        rw [List.getElem?_drop] at hv hl
        rw [Nat.add_assoc] at hl
        exact hh _ v l hv hl
      · cases hv
    · rename_i hag
      split at hE
      case h_2 => cases hE
      rename_i v0 hv0
      cases hE
      have hi := lt_of_getElem? hv0
      have hl0 := List.getElem?_eq_getElem (l := lcs) (i := base + off) (by omega)
      refine OpRes.val H E rfl (l := lcs[base + off]'(by omega)) (by simp only [opE,hl,hb,if_neg hag,hl0]) (hh off v0 _ hv0 hl0).sh (sh_ne _)
  · cases hE

theorem stV_rv {v : VV} {l : LV} (h : RV w φ lh v l) (hs : (stV v).all VV.single = true) : RVs w φ lh (stV v) l.cells := by
  cases h with
  | agg cs ls hl h => exact ow_rvs ⟨hl,h⟩
  | undef => simp [stV,VV.ow,VV.single] at hs
  | _ => exact .cons (RV.ow (by constructor <;> assumption)) .nil

/-- The right goes into the block with what is stored. -/
theorem stV_tok {o1 : Owner} {b off : Nat} {v : VV} {l : LV} (h : RV w φ lh v l) (ht : Tok w lh o1 v l) (hn : ∀ b,lh.length ≤ b → w b = none) (ho : o1 ≠ .ext) : ∃ w' : Own,Fr w lh w' lh ∧ (∀ b x,x ≠ o1 → w b = some x → w' b = some x) ∧ (∀ (i : Nat) (c : VV) (lc : LV),(stV v)[i]? = some c → l.cells[i]? = some lc → Tok w' lh (.cell b (off + i)) c lc) ∧ ∀ b,lh.length ≤ b → w' b = none := by
  by_cases hv : ∃ cs,v = .agg cs
  · obtain ⟨cs,rfl⟩ := hv
    cases h with
    | agg _ ls hl h => exact ⟨w,Fr.refl _ _,fun _ _ _ h => h,ow_tok (φ := φ) ⟨hl,h⟩,hn⟩
  · obtain ⟨w',fr,hk,ht',hn'⟩ := ht.move (o2 := .cell b off) hn ho
    refine ⟨w',fr,hk,fun i c lc hc hlc => ?_,hn'⟩
    have e1 : stV v = [v.ow] := by
      cases v <;> first | rfl | exact absurd ⟨_,rfl⟩ hv
    rw [e1] at hc
    cases i with
    | succ i => simp at hc
    | zero =>
      simp at hc; subst hc
      have e2 : ∀ r,v.ow = .list .o r → l.cells = [l] := by
        intro r hr
        unfold VV.ow at hr
        split at hr
        · cases h <;> rfl
        · subst hr; cases h <;> rfl
      intro r hr
      have := e2 r hr
      rw [this] at hlc
      simp at hlc; subst hlc
      exact Tok.ow (h.mono (PExt.refl _) fr) ht' r hr

theorem sim_store {n : Nat} {a x : X} (H : HS lo w φ vh lh) (E : ES w φ lh env lenv) (hE : opV cf lo (.store n a x) env vh = some (v,vh')) : OpResP lcf lo w φ env lenv vh lh (.store n a x) d v vh' := by
  simp only [opV] at hE
  have h := E.x a
  split at hE
  case h_2 => cases hE
  rename_i b off ha
  rw [ha] at h
  generalize hl : a.ev lenv = l at h
  cases h with
  | @ptr _ _ pb hp =>
  split at hE
  case h_2 => cases hE
  rename_i rw cs hb
  obtain ⟨lrw,lcs,h1,h2,h3,h4⟩ := H.cells hb hp
  split at hE
  case isFalse => cases hE
  rename_i hc
  obtain ⟨hrw,hlo,hn,hle,hsg⟩ := hc
  rw [if_pos ⟨hrw,hlo⟩] at h4
  obtain ⟨rfl,h6,h7⟩ := h4
  have hx := E.x x
  -- who holds the right
  obtain ⟨o1,hoe,ho1,ho2,ht,hstr⟩ : ∃ o1 : Owner,o1 ≠ .ext ∧ (∀ i,o1 ≠ .cell b i) ∧ (∀ m,¬ ofBlk m o1) ∧ Tok w lh o1 (vr env x) (x.ev lenv) ∧ ∀ w' : Own,Fr w lh w' lh → (∀ b x,x ≠ o1 → w b = some x → w' b = some x) → ES w' φ lh (strip (.store n a x) env) lenv := by
    cases x with
    | c c => exact ⟨.env env.length,(by simp),(fun i h => by cases h),fun m h => h,Tok.no (ofLV_ne c),fun w' fr hk =>
        ⟨E.len,fun i v l hv hl => ⟨(E.get i v l hv hl).1.mono (PExt.refl _) fr,(E.get i v l hv hl).2.mono ⟨φ,(E.get i v l hv hl).1⟩ fr (Same.of_keep hk fun h => by have := lt_of_getElem? (l := env) hv; injection h with h; omega)⟩⟩⟩
    | t k => exact ⟨.env k,(by simp),(fun i h => by cases h),fun m h => h,E.tokx k,fun w' fr hk => E.strip fr hk⟩
  obtain ⟨w1,fr1,hk,htk,hn1⟩ := stV_tok (b := b) (off := off) hx ht H.new hoe
  have hvs := stV_rv hx hsg
  have hpb := lt_of_getElem? h1
  let lh' := lh.set pb (.cells true (Lg.splice lcs off (x.ev lenv).cells))
  have keep : ∀ q,q ≠ pb → lh'[q]? = lh[q]? := fun q hq => List.getElem?_set_ne (fun e => hq e.symm)
  have fr2 : Fr w lh w1 lh' := ⟨by simp [lh'],fun q hq hw => ⟨(fr1.keep q hq hw).1,keep q (by rintro rfl; rw [h6] at hw; cases hw)⟩,fun q hq hw => ⟨(fr1.ext q hq hw).1,keep q (by rintro rfl; rw [h6] at hw; cases hw)⟩⟩
  have fr3 : Fr w1 lh w1 lh' := ⟨by simp [lh'],fun q hq hw => ⟨hw,keep q (by rintro rfl; rw [hk q _ (fun e => ho2 b (by rw [← e]; rfl)) h6] at hw; cases hw)⟩,fun q hq hw => ⟨hw,keep q (by rintro rfl; rw [hk q _ (fun e => ho2 b (by rw [← e]; rfl)) h6] at hw; cases hw)⟩⟩
  have same2 : ∀ P : Owner → Prop,¬ P o1 → ¬ P (.blk b) → Same P w lh w1 lh' := fun P hp1 hp2 q y hq hw hy =>
    ⟨hk q y (fun e => hp1 (e ▸ hy)) hw,keep q (by rintro rfl; rw [h6] at hw; cases hw; exact hp2 hy)⟩
  have same3 : ∀ P : Owner → Prop,¬ P (.blk b) → Same P w1 lh w1 lh' := fun P hp2 q y hq hw hy =>
    ⟨hw,keep q (by rintro rfl; rw [hk q _ (fun e => ho2 b (by rw [← e]; rfl)) h6] at hw; cases hw; exact hp2 hy)⟩
  have hrv2 := h2.mono (PExt.refl φ) fr2
  have hvs2 := hvs.mono (PExt.refl φ) fr2
  have htoks : ∀ (i : Nat) (y : VV) (ly : LV),(vsplice cs off (stV (vr env x)))[i]? = some y → (Lg.splice lcs off (x.ev lenv).cells)[i]? = some ly → Tok w1 lh' (.cell b i) y ly := by
    intro i y ly hy hly
    have old : ∀ (j : Nat),cs[j]? = some y → lcs[j]? = some ly → Tok w1 lh' (.cell b j) y ly := fun j a1 a2 =>
      (h7 j y ly a1 a2).mono ⟨φ,h2.2 j y ly a1 a2⟩ fr2 (same2 _ (fun e => ho1 j e) (fun e => by cases e))
    have hl1 := h2.1
    have hl2 := hvs.1
    unfold vsplice at hy
    unfold Lg.splice at hly
    rcases Nat.lt_or_ge i off with hi | hi
    · rw [List.append_assoc,List.getElem?_append_left (by simp; omega),List.getElem?_take,if_pos hi] at hy hly
      exact old i hy hly
    · rcases Nat.lt_or_ge i (off + (stV (vr env x)).length) with hj | hj
      · obtain ⟨j,rfl⟩ : ∃ j,i = off + j := ⟨i - off,by omega⟩
        rw [List.append_assoc,List.getElem?_append_right (by simp; omega)] at hy hly
        simp only [List.length_take,Nat.min_eq_left (show off ≤ cs.length by omega),Nat.min_eq_left (show off ≤ lcs.length by omega),Nat.add_sub_cancel_left] at hy hly
        rw [List.getElem?_append_left (by omega)] at hy hly
        exact (htk j y ly hy hly).mono ⟨φ,(hvs.2 j y ly hy hly).mono (PExt.refl _) fr1⟩ fr3 (same3 _ (by intro h; cases h))
      · rw [List.getElem?_append_right (by simp; omega),List.getElem?_drop] at hy hly
        simp only [List.length_append,List.length_take] at hy hly
        have e1 : off + (stV (vr env x)).length + (i - (min off cs.length + (stV (vr env x)).length)) = i := by omega
        have e2 : off + (x.ev lenv).cells.length + (i - (min off lcs.length + (x.ev lenv).cells.length)) = i := by omega
        rw [e1] at hy; rw [e2] at hly
        exact old i hy hly
  split at hE
  case isTrue hlow =>
    simp only [Option.some.injEq,Prod.mk.injEq] at hE
    obtain ⟨rfl,rfl⟩ := hE
    refine ⟨.tup [],lh',w1,φ,?_,fr2,PExt.refl _,H.upd fr2 (fun m hm => same2 _ (ho2 m) (fun h => hm h.symm)) (fun pb' hp' => ?_) (fun q hq => hn1 q (by simpa [lh'] using hq)),?_,RVs.nil.tup,Tok.no fun r hr => by cases hr⟩
    · simp only [opE,hl,h1]
      rw [if_pos ⟨trivial,Nat.zero_le _,by rw [← hvs.1]; exact hn,by rw [← h2.1]; exact hle,hvs.single hsg⟩]
    · rw [hp] at hp'; cases hp'
      refine ⟨true,_,List.getElem?_set_self hpb,hrv2.splice hvs2 off,?_,?_⟩
      · refine lowL_of fun y hy => ?_
        unfold vsplice at hy
        rcases List.mem_append.1 hy with hy | hy
        · rcases List.mem_append.1 hy with hy | hy
          · exact lowL_mem h3 y (List.mem_of_mem_take hy)
          · exact lowL_mem hlow y hy
        · exact lowL_mem h3 y (List.mem_of_mem_drop hy)
      · rw [if_pos ⟨hrw,hlo⟩]
        exact ⟨rfl,hk pb _ (fun e => ho2 b (by rw [← e]; rfl)) h6,htoks⟩
    · have e : post (.store n a x) env vh = strip (.store n a x) env := by
        cases a with
        | c c => rfl
        | t k => simp only [vr] at ha; simp only [post,mvF,ha,hlow,if_true]
      rw [e]
      exact (hstr w1 fr1 hk).mono (PExt.refl _) fr3 (fun i => same3 _ (by intro h; cases h))
  case isFalse hlow =>
    cases a with
    | c c => simp only at hE; cases hE
    | t k =>
    simp only [Option.some.injEq,Prod.mk.injEq] at hE
    obtain ⟨rfl,rfl⟩ := hE
    let w2 : Own := fun q => if q = pb then some (.blk vh.length) else match w1 q with
      | some (.cell m i) => if m = b then some (.cell vh.length i) else some (.cell m i)
      | o => o
    have h6' : w1 pb = some (.blk b) := hk pb _ (fun e => ho2 b (by rw [← e]; rfl)) h6
    have w2n : ∀ q o,q ≠ pb → w1 q = o → (∀ i,o ≠ some (.cell b i)) → w2 q = o := by
      intro q o hq hw ho
      simp only [w2,if_neg hq,hw]
      split
      · rename_i m i
        by_cases e : m = b
        · subst e; exact absurd rfl (ho i)
        · rw [if_neg e]
      · rfl
    have fr4 : Fr w lh w2 lh' := ⟨fr2.le,fun q hq hw => ⟨w2n q _ (by rintro rfl; rw [h6] at hw; cases hw) (fr2.keep q hq hw).1 (fun i h => by cases h),(fr2.keep q hq hw).2⟩,fun q hq hw => ⟨w2n q _ (by rintro rfl; rw [h6] at hw; cases hw) (fr2.ext q hq hw).1 (fun i h => by cases h),(fr2.ext q hq hw).2⟩⟩
    have fr5 : Fr w1 lh w2 lh' := ⟨fr3.le,fun q hq hw => ⟨w2n q _ (by rintro rfl; rw [h6'] at hw; cases hw) hw (fun i h => by cases h),(fr3.keep q hq hw).2⟩,fun q hq hw => ⟨w2n q _ (by rintro rfl; rw [h6'] at hw; cases hw) hw (fun i h => by cases h),(fr3.ext q hq hw).2⟩⟩
    have fr6 : Fr w1 lh' w2 lh' := ⟨Nat.le_refl _,fun q hq hw => ⟨w2n q _ (by rintro rfl; rw [h6'] at hw; cases hw) hw (fun i h => by cases h),rfl⟩,fun q hq hw => ⟨w2n q _ (by rintro rfl; rw [h6'] at hw; cases hw) hw (fun i h => by cases h),rfl⟩⟩
    have same4 : ∀ P : Owner → Prop,¬ P o1 → ¬ P (.blk b) → (∀ i,¬ P (.cell b i)) → Same P w lh w2 lh' := fun P hp1 hp2 hp3 q y hq hw hy => by
      obtain ⟨e1,e2⟩ := same2 P hp1 hp2 q y hq hw hy
      exact ⟨w2n q _ (by rintro rfl; rw [h6] at hw; cases hw; exact hp2 hy) e1 (fun i h => by cases h; exact hp3 i hy),e2⟩
    have same5 : ∀ P : Owner → Prop,¬ P (.blk b) → (∀ i,¬ P (.cell b i)) → Same P w1 lh w2 lh' := fun P hp2 hp3 q y hq hw hy => by
      obtain ⟨e1,e2⟩ := same3 P hp2 q y hq hw hy
      exact ⟨w2n q _ (by rintro rfl; rw [h6'] at hw; cases hw; exact hp2 hy) e1 (fun i h => by cases h; exact hp3 i hy),e2⟩
    have hn2 : ∀ q,lh'.length ≤ q → w2 q = none := fun q hq => by
      have hq' : lh.length ≤ q := by simpa [lh'] using hq
      exact w2n q _ (by omega) (hn1 q hq') (fun i h => by cases h)
    have hpbl : lh'[pb]? = some (.cells true (Lg.splice lcs off (x.ev lenv).cells)) := List.getElem?_set_self hpb
    have H1 : HS lo w2 φ (vh.set b .dead) lh' := H.upd fr4 (fun m hm => same4 _ (ho2 m) (fun h => hm h.symm) (fun i h => hm h.symm)) (fun pb' hp' => True.intro) hn2
    have hcs := (hrv2.splice hvs2 off)
    have hcs2 := hcs.mono (PExt.app φ [pb]) fr6
    have hlen : (vh.set b VBlk.dead).length = vh.length := by simp
    have H2 : HS lo w2 (φ ++ [pb]) (vh.set b .dead ++ [.cells rw (vsplice cs off (stV (vr env x)))]) lh' := by
      refine H1.push (Fr.refl w2 lh') (fun m hm q y hq hw hy => ⟨hw,rfl⟩) ?_ hn2
      rw [hlen]
      refine ⟨true,_,hpbl,hcs2,lowL_mono (by have := H.len; omega) _ hcs.low,?_⟩
      rw [if_pos ⟨hrw,H.lol⟩]
      refine ⟨rfl,by simp only [w2,if_true],fun i y ly hy hly r hr => ?_⟩
      rcases htoks i y ly hy hly r hr with h | h | ⟨q,off',len,es,lcs',q1,q2,q3,q4,q5⟩
      · exact .inl h
      · exact .inr (.inl h)
      · refine .inr (.inr ⟨q,off',len,es,lcs',q1,q2,q3,?_,q5⟩)
        have : q + 1 ≠ pb := by rintro rfl; rw [hpbl] at q3; cases q3
        simp only [w2,if_neg this,q4,if_true]
    refine ⟨.tup [],lh',w2,φ ++ [pb],?_,fr4,PExt.app _ _,H2,?_,RVs.nil.tup,Tok.no fun r hr => by cases hr⟩
    · simp only [opE,hl,h1]
      rw [if_pos ⟨trivial,Nat.zero_le _,by rw [← hvs.1]; exact hn,by rw [← h2.1]; exact hle,hvs.single hsg⟩]
    · have e : post (.store n (.t k) x) env vh = (strip (.store n (.t k) x) env).set k (.ptr vh.length off) := by
        simp only [vr] at ha; simp only [post,mvF,ha,hlow]; rfl
      rw [e]
      have E2 : ES w2 (φ ++ [pb]) lh' (strip (.store n (.t k) x) env) lenv := (hstr w1 fr1 hk).mono (PExt.app _ _) fr5 (fun i => same5 _ (by intro h; cases h) (fun j h => by cases h))
      refine ⟨by rw [List.length_set]; exact E2.len,fun i y ly hy hly => ?_⟩
      rw [List.getElem?_set] at hy
      split at hy
      · rename_i hki
        subst hki
        split at hy
        · cases hy
          simp only [X.ev,List.getD_eq_getElem?_getD,hly,Option.getD_some] at hl
          subst hl
          exact ⟨.ptr (by rw [← H.len]; exact List.getElem?_concat_length),Tok.no fun r hr => by cases hr⟩
        · cases hy
      · exact E2.get i y ly hy hly
end
end Vg
