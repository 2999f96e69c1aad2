import Derived.Test.YtpikplkdlbnffaaGreatDoorVVgRel
/- Operations: what the machine of values does,the logical machine does. -/
namespace Vg
open Go Lg
set_option linter.unusedSimpArgs false
set_option linter.unusedVariables false
set_option maxHeartbeats 1000000

def CallSim (cf : VCall) (cs : CallS) : Prop := ∀ lo f args vh v vh',cf lo f args vh = some (v,vh') → ∀ w φ largs lh d,HS lo w φ vh lh → RVs w φ lh args largs →
  cs f largs lh fun l lh' => ∃ w' φ',Fr w lh w' lh' ∧ (∀ i,SameT (· = .env i) w lh w' lh') ∧ PExt φ φ' ∧ HS lo w' φ' vh' lh' ∧ RV w' φ' lh' v l ∧ Tok w' lh' (.env d) v l

def OpRes (lcf : CallF) (lo : Nat) (w : Own) (φ : List Nat) (env : VEnv) (lenv : Env) (lh : Heap) (op : LOp) (d : Nat) (v : VV) (vh' : VHeap) : Prop :=
  ∃ l lh' w' φ',opE lcf 0 op lenv lh = some (l,lh') ∧ Fr w lh w' lh' ∧ PExt φ φ' ∧ HS lo w' φ' vh' lh' ∧ ES w' φ' lh' (strip op env) lenv ∧ RV w' φ' lh' v l ∧ Tok w' lh' (.env d) v l

def OpResP (lcf : CallF) (lo : Nat) (w : Own) (φ : List Nat) (env : VEnv) (lenv : Env) (vh : VHeap) (lh : Heap) (op : LOp) (d : Nat) (v : VV) (vh' : VHeap) : Prop :=
  ∃ l lh' w' φ',opE lcf 0 op lenv lh = some (l,lh') ∧ Fr w lh w' lh' ∧ PExt φ φ' ∧ HS lo w' φ' vh' lh' ∧ ES w' φ' lh' (post op env vh) lenv ∧ RV w' φ' lh' v l ∧ Tok w' lh' (.env d) v l
theorem post_eq {op : LOp} (hm : isStore op = false) (env : VEnv) (h : VHeap) : post op env h = strip op env := by
  cases op <;> first | rfl | cases hm

section
variable {cf : VCall} {lcf : CallF} {lo : Nat} {w : Own} {φ : List Nat} {env : VEnv} {lenv : Env} {vh vh' : VHeap} {lh : Heap} {d : Nat} {v : VV}

theorem ES.x (E : ES w φ lh env lenv) (x : X) : RV w φ lh (vr env x) (x.ev lenv) := by
  cases x with
  | c c => exact ofLV_rv w φ lh c
  | t n =>
    simp only [vr,X.ev,List.getD_eq_getElem?_getD]
    cases h : env[n]? with
    | none => exact .undef _
    | some v => obtain ⟨l,hl,hr⟩ := E.rvs.get h; rw [hl]; exact hr
theorem ES.tokx (E : ES w φ lh env lenv) (n : Nat) : Tok w lh (.env n) (vr env (.t n)) (X.ev lenv (.t n)) := by
  simp only [vr,X.ev,List.getD_eq_getElem?_getD]
  cases h : env[n]? with
  | none => exact Tok.no fun r hr => by cases hr
  | some v => obtain ⟨l,hl⟩ := getElem?_lists E.len h; rw [hl]; exact (E.get n v l h hl).2
theorem ES.xs (E : ES w φ lh env lenv) (x : X) : RV w φ lh (vs env x) (x.ev lenv) := (E.x x).sh
theorem vs_ne (env : VEnv) (x : X) : ∀ r,vs env x ≠ .list .o r := sh_ne _
theorem ES.args (E : ES w φ lh env lenv) (xs : List X) : RVs w φ lh (xs.map (vs env)) (xs.map (X.ev lenv)) := by
  refine ⟨by simp,fun i v l hv hl => ?_⟩
  rw [List.getElem?_map] at hv hl
  obtain ⟨x,hx,rfl⟩ := Option.map_eq_some_iff.1 hv
  rw [hx] at hl; cases hl
  exact E.xs x

/-- Nothing but a value. -/
theorem OpRes.val {op : LOp} {l : LV} (H : HS lo w φ vh lh) (E : ES w φ lh env lenv) (hs : loses op = none) (hE : opE lcf 0 op lenv lh = some (l,lh)) (hr : RV w φ lh v l) (hv : ∀ r,v ≠ .list .o r) : OpRes lcf lo w φ env lenv lh op d v vh :=
  ⟨l,lh,w,φ,hE,Fr.refl _ _,PExt.refl _,H,by unfold strip; rw [hs]; exact E,hr,Tok.no hv⟩

/-- The right to append goes from one holder to another. -/
theorem Tok.move {o1 o2 : Owner} {v : VV} {l : LV} (h : Tok w lh o1 v l) (hn : ∀ b,lh.length ≤ b → w b = none) (ho : o1 ≠ .ext) : ∃ w' : Own,Fr w lh w' lh ∧ (∀ b x,x ≠ o1 → w b = some x → w' b = some x) ∧ Tok w' lh o2 v l ∧ ∀ b,lh.length ≤ b → w' b = none := by
  by_cases hv : ∃ r,v = .list .o r
  · obtain ⟨r,rfl⟩ := hv
    rcases h r rfl with h | h | ⟨n,off,len,es,lcs,hl,h1,h2,h3,h4⟩
    · exact ⟨w,Fr.refl _ _,fun _ _ _ h => h,fun r _ => .inl h,hn⟩
    · exact ⟨w,Fr.refl _ _,fun _ _ _ h => h,fun r _ => .inr (.inl h),hn⟩
    · refine ⟨fun b => if b = n + 1 then some o2 else w b,⟨Nat.le_refl _,fun b _ hb => ⟨?_,rfl⟩,fun b _ hb => ⟨?_,rfl⟩⟩,fun b x hx hb => ?_,fun r hr => .inr (.inr ⟨n,off,len,es,lcs,hl,h1,h2,by simp,by cases hr; exact h4⟩),fun b hb => ?_⟩
      · by_cases e : b = n + 1
        · subst e; rw [h3] at hb; cases hb
        · simp only [e,if_false]; exact hb
      · by_cases e : b = n + 1
        · subst e; rw [h3] at hb; cases hb; exact absurd rfl ho
        · simp only [e,if_false]; exact hb
      · by_cases e : b = n + 1
        · subst e; rw [h3] at hb; cases hb; exact absurd rfl hx
        · simp only [e,if_false]; exact hb
      · have : b ≠ n + 1 := by have := lt_of_getElem? h2; omega
        simp only [this,if_false]; exact hn b hb
  · exact ⟨w,Fr.refl _ _,fun _ _ _ h => h,Tok.no fun r hr => hv ⟨r,hr⟩,hn⟩

theorem Same.of_keep {w' : Own} {P : Owner → Prop} {o1 : Owner} (h : ∀ b x,x ≠ o1 → w b = some x → w' b = some x) (hp : ¬ P o1) : Same P w lh w' lh :=
  fun b x _ hb hx => ⟨h b x (fun e => hp (e ▸ hx)) hb,rfl⟩

/-- A slot loses its right. -/
theorem ES.strip {w' : Own} (E : ES w φ lh env lenv) {n : Nat} (fr : Fr w lh w' lh) (h : ∀ b x,x ≠ .env n → w b = some x → w' b = some x) : ES w' φ lh (env.set n (env.getD n .undef).sh) lenv := by
  refine ⟨by simp [E.len],fun i v l hv hl => ?_⟩
  rw [List.getElem?_set] at hv
  split at hv
  · rename_i e
    subst e
    split at hv
    · cases hv
      refine ⟨?_,Tok.no (sh_ne _)⟩
      obtain ⟨v0,hv0⟩ := getElem?_lists E.len.symm hl
      rw [List.getD_eq_getElem?_getD,hv0]
      exact ((E.get n v0 l hv0 hl).1.mono (PExt.refl _) fr).sh
    · cases hv
  · rename_i e
    have := E.get i v l hv hl
    exact ⟨this.1.mono (PExt.refl _) fr,this.2.mono ⟨φ,this.1⟩ fr (Same.of_keep h fun x => e (by cases x; rfl))⟩

theorem sim_mv {m : Bool} {x : X} (H : HS lo w φ vh lh) (E : ES w φ lh env lenv) (hE : opV cf lo (.mv m x) env vh = some (v,vh')) : OpRes lcf lo w φ env lenv lh (.mv m x) d v vh' := by
  simp only [opV,Option.some.injEq,Prod.mk.injEq] at hE
  obtain ⟨rfl,rfl⟩ := hE
  cases m with
  | false => exact OpRes.val H E (by cases x <;> rfl) rfl (by simpa using E.xs x) (by simpa using vs_ne env x)
  | true =>
    cases x with
    | c c =>
      refine ⟨_,lh,w,φ,rfl,Fr.refl _ _,PExt.refl _,H,E,(E.x (.c c)).ow,Tok.ow (E.x (.c c)) (Tok.no (ofLV_ne c))⟩
    | t n =>
      obtain ⟨w',fr,hk,ht,hn⟩ := (E.tokx n).move (o2 := .env d) H.new (by simp)
      refine ⟨_,lh,w',φ,rfl,fr,PExt.refl _,H.mono fr (fun m => Same.of_keep hk fun h => h) hn,E.strip fr hk,?_,?_⟩
      · exact ((E.x (.t n)).mono (PExt.refl _) fr).ow
      · exact Tok.ow ((E.x (.t n)).mono (PExt.refl _) fr) ht

/-- An owner more,of a block that is new. -/
def own1 (w : Own) (b : Nat) (o : Owner) : Own := fun x => if x = b then some o else w x
theorem own1_fr {b : Nat} {o : Owner} {x : List LBlk} (hb : lh.length ≤ b) : Fr w lh (own1 w b o) (lh ++ x) :=
  ⟨by simp,fun n hn hw => ⟨by unfold own1; rw [if_neg (by omega)]; exact hw,List.getElem?_append_left hn⟩,fun n hn hw => ⟨by unfold own1; rw [if_neg (by omega)]; exact hw,List.getElem?_append_left hn⟩⟩
theorem own1_same {b : Nat} {o : Owner} {x : List LBlk} {P : Owner → Prop} (hb : lh.length ≤ b) : Same P w lh (own1 w b o) (lh ++ x) :=
  fun n y hn hw _ => ⟨by unfold own1; rw [if_neg (by omega)]; exact hw,List.getElem?_append_left hn⟩
theorem fr_app {x : List LBlk} : Fr w lh w (lh ++ x) := ⟨by simp,fun n hn hw => ⟨hw,List.getElem?_append_left hn⟩,fun n hn hw => ⟨hw,List.getElem?_append_left hn⟩⟩
theorem same_app {x : List LBlk} {P : Owner → Prop} : Same P w lh w (lh ++ x) := fun n y hn hw _ => ⟨hw,List.getElem?_append_left hn⟩

theorem ow_tok {cs : List VV} {lcs : List LV} {o : Nat → Owner} {φ : List Nat} (h : RVs w φ lh cs lcs) : ∀ (i : Nat) (v : VV) (l : LV),(cs.map fun c => c.sh.ow)[i]? = some v → lcs[i]? = some l → Tok w lh (o i) v l := by
  intro i v l hv hl
  rw [List.getElem?_map] at hv
  obtain ⟨c,hc,rfl⟩ := Option.map_eq_some_iff.1 hv
  exact Tok.ow (h.2 i c l hc hl).sh (Tok.no (sh_ne _))
theorem ow_rvs {cs : List VV} {lcs : List LV} {φ : List Nat} (h : RVs w φ lh cs lcs) : RVs w φ lh (cs.map fun c => c.sh.ow) lcs := h.map fun v l h => h.sh.ow
theorem ow_low {cs : List VV} {k : Nat} (h : lowL k cs = true) : lowL k (cs.map fun c => c.sh.ow) = true := lowL_of fun v hv => by
  obtain ⟨c,hc,rfl⟩ := List.mem_map.1 hv
  rw [low_ow,low_sh]; exact lowL_mem h c hc
theorem ofLVs_sh (zs : List LV) : (ofLVs zs).map VV.ow = (ofLVs zs).map fun c => c.sh.ow := by
  induction zs with
  | nil => rfl
  | cons z zs ih =>
    simp only [ofLVs,List.map_cons,ih]
    congr 2
    have := ofLV_ne z
    unfold VV.sh
    split
    · rename_i e; exact absurd e (this _)
    · rfl

/-- A new block of cells. -/
theorem new_cells {op : LOp} {cs : List VV} {lcs : List LV} {l : LV} (H : HS lo w φ vh lh) (E : ES w φ lh env lenv) (hs : loses op = none) (hE : opE lcf 0 op lenv lh = some (l,lh ++ [.cells true lcs])) (hr : RVs w φ lh cs lcs)
    (hv : ∀ w' φ' lh',φ'[vh.length]? = some lh.length → RV w' φ' lh' v l) (hvo : ∀ r,v ≠ .list .o r) : OpRes lcf lo w φ env lenv lh op d v (vh ++ [.cells true (cs.map fun c => c.sh.ow)]) := by
  have fr := own1_fr (w := w) (lh := lh) (o := .blk vh.length) (x := [.cells true lcs]) (Nat.le_refl _)
  have hr' := hr.mono (PExt.app φ [lh.length]) fr
  refine ⟨l,_,own1 w lh.length (.blk vh.length),φ ++ [lh.length],hE,fr,PExt.app _ _,H.push fr (fun m _ => own1_same (Nat.le_refl _)) ?_ (fun b hb => ?_),?_,hv _ _ _ (by rw [← H.len]; exact List.getElem?_concat_length),Tok.no hvo⟩
  · refine ⟨true,lcs,List.getElem?_concat_length,ow_rvs hr',ow_low (lowL_mono (by have := H.len; omega) _ hr.low),?_⟩
    rw [if_pos ⟨rfl,H.lol⟩]
    exact ⟨rfl,by simp [own1],ow_tok hr'⟩
  · simp only [List.length_append,List.length_singleton] at hb
    unfold own1; rw [if_neg (by omega)]; exact H.new b (by omega)
  · unfold strip; rw [hs]
    exact E.mono (PExt.app _ _) fr fun i => own1_same (Nat.le_refl _)
end
end Vg
/- Operations: values,blocks,loads and stores. -/
namespace Vg
open Go Lg
set_option linter.unusedSimpArgs false
set_option linter.unusedVariables false
set_option maxHeartbeats 1000000
section
variable {cf : VCall} {lcf : CallF} {lo : Nat} {w : Own} {φ : List Nat} {env : VEnv} {lenv : Env} {vh vh' : VHeap} {lh : Heap} {d : Nat} {v : VV}

theorem sim_mvs {x : X} (H : HS lo w φ vh lh) (E : ES w φ lh env lenv) (hE : opV cf lo (.mvs x) env vh = some (v,vh')) : OpRes lcf lo w φ env lenv lh (.mvs x) d v vh' := by
  simp only [opV] at hE
  have h := E.x x
  split at hE
  case h_2 => cases hE
  rename_i s hs
  cases hE
  rw [hs] at h
  generalize hl : x.ev lenv = l at h
  cases h
  exact OpRes.val H E rfl (by simp only [opE,hl]) (.str _) (fun r hr => by cases hr)

theorem sim_pick {c x y : X} (H : HS lo w φ vh lh) (E : ES w φ lh env lenv) (hE : opV cf lo (.pick c x y) env vh = some (v,vh')) : OpRes lcf lo w φ env lenv lh (.pick c x y) d v vh' := by
  simp only [opV] at hE
  have h := E.x c
  split at hE
  case h_2 => cases hE
  rename_i t hs
  cases hE
  rw [hs] at h
  generalize hl : c.ev lenv = l at h
  cases h
  cases t with
  | true => exact OpRes.val H E rfl (by simp only [opE,hl,if_true]) (E.xs x) (vs_ne env x)
  | false => exact OpRes.val H E rfl (by simp only [opE,hl,Bool.false_eq_true,if_false]) (E.xs y) (vs_ne env y)

theorem sim_alloc {zs : List LV} (H : HS lo w φ vh lh) (E : ES w φ lh env lenv) (hE : opV cf lo (.alloc zs) env vh = some (v,vh')) : OpRes lcf lo w φ env lenv lh (.alloc zs) d v vh' := by
  simp only [opV,Option.some.injEq,Prod.mk.injEq] at hE
  obtain ⟨rfl,rfl⟩ := hE
  rw [ofLVs_sh]
  exact new_cells H E rfl rfl (ofLVs_rv w φ lh zs) (fun _ _ _ h => .ptr h) (fun r hr => by cases hr)

theorem ne_undef_of_single {v : VV} (h : v.cells.all VV.single = true) : v ≠ .undef := by
  rintro rfl; simp [VV.cells,VV.single] at h

theorem sim_box {x : X} (H : HS lo w φ vh lh) (E : ES w φ lh env lenv) (hE : opV cf lo (.box x) env vh = some (v,vh')) : OpRes lcf lo w φ env lenv lh (.box x) d v vh' := by
  simp only [opV] at hE
  split at hE
  case isFalse => cases hE
  rename_i hs
  simp only [Option.some.injEq,Prod.mk.injEq] at hE
  obtain ⟨rfl,rfl⟩ := hE
  have hr := (E.xs x).cells (ne_undef_of_single hs)
  exact new_cells H E rfl (by simp only [opE]; rw [if_pos (hr.single hs)]) hr (fun _ _ _ h => .ptr h) (fun r hr => by cases hr)

theorem fill_rv (E : ES w φ lh env lenv) : ∀ (ps : List (Nat × Nat × X)) (cs : List VV) (ls : List LV) (out : List VV),RVs w φ lh cs ls → fillV env cs ps = some out → ∃ lout,fillE lenv ls ps = some lout ∧ RVs w φ lh out lout
  | [],cs,ls,out,h,hf => by simp only [fillV,Option.some.injEq] at hf; subst hf; exact ⟨ls,rfl,h⟩
  | (o,s,x) :: ps,cs,ls,out,h,hf => by
    simp only [fillV] at hf
    split at hf
    case isFalse => cases hf
    rename_i hc
    obtain ⟨h1,h2,h3⟩ := hc
    have hr := (E.xs x).cells (ne_undef_of_single h3)
    obtain ⟨lout,h4,h5⟩ := fill_rv E ps _ _ out (h.splice hr o) hf
    refine ⟨lout,?_,h5⟩
    simp only [fillE]
    rw [if_pos ⟨by rw [← hr.1]; exact h1,by rw [← h.1]; exact h2,hr.single h3⟩]
    exact h4

theorem sim_build {zs : List LV} {ps : List (Nat × Nat × X)} (H : HS lo w φ vh lh) (E : ES w φ lh env lenv) (hE : opV cf lo (.build zs ps) env vh = some (v,vh')) : OpRes lcf lo w φ env lenv lh (.build zs ps) d v vh' := by
  simp only [opV] at hE
  split at hE
  case h_2 => cases hE
  rename_i cs hf
  cases hE
  obtain ⟨lout,h1,h2⟩ := fill_rv E ps _ _ cs (ofLVs_rv w φ lh zs) hf
  exact OpRes.val H E rfl (by simp only [opE,h1]) h2.agg (fun r hr => by cases hr)

theorem chunk_length (es : Nat) : ∀ (n : Nat) (cs : List VV),(chunk es n cs).length = n
  | 0,_ => rfl
  | n + 1,cs => by simp [chunk,chunk_length es n]
theorem chunk_row (es : Nat) : ∀ (n : Nat) (cs : List VV),n * es ≤ cs.length → ∀ (i : Nat) (row : List VV),(chunk es n cs)[i]? = some row → row = (cs.drop (i * es)).take es ∧ row.length = es
  | 0,_,_,i,row,h => by simp [chunk] at h
  | n + 1,cs,hl,i,row,h => by
    rw [Nat.add_mul,Nat.one_mul] at hl
    cases i with
    | zero =>
      simp only [chunk,List.getElem?_cons_zero,Option.some.injEq] at h
      subst h
      simp; omega
    | succ i =>
      simp only [chunk,List.getElem?_cons_succ] at h
      obtain ⟨h1,h2⟩ := chunk_row es n (cs.drop es) (by simp; omega) i row h
      rw [List.drop_drop] at h1
      refine ⟨?_,h2⟩
      rw [h1,Nat.add_mul,Nat.one_mul,Nat.add_comm es]

/-- Rows,as cells. -/
structure RowsAt (w : Own) (φ : List Nat) (lh : Heap) (es : Nat) (rows : List (List VV)) (cells : List LV) : Prop where
  len : cells.length = rows.length * es
  row : ∀ row ∈ rows,row.length = es ∧ lowL 0 row = true
  get : ∀ (i : Nat) (row : List VV) (j : Nat) (v : VV) (l : LV),rows[i]? = some row → row[j]? = some v → cells[i * es + j]? = some l → RV w φ lh v l

theorem chunk_at {es n : Nat} {cs : List VV} {lcs : List LV} (h : RVs w φ lh cs lcs) (hf : lowL 0 cs = true) (hn : n * es ≤ cs.length) : RowsAt w φ lh es (chunk es n cs) (lcs.take (n * es)) := by
  refine ⟨by rw [chunk_length]; have := h.1; simp; omega,fun row hr => ?_,fun i row j v l hr hv hl => ?_⟩
  · obtain ⟨i,hi⟩ := List.mem_iff_getElem?.1 hr
    obtain ⟨h1,h2⟩ := chunk_row es n cs hn i row hi
    refine ⟨h2,lowL_of fun v hv => ?_⟩
    rw [h1] at hv
    exact lowL_mem hf v (List.mem_of_mem_drop (List.mem_of_mem_take hv))
  · obtain ⟨h1,h2⟩ := chunk_row es n cs hn i row hr
    rw [h1,List.getElem?_take] at hv
    split at hv
    · rw [List.getElem?_drop] at hv
      rw [List.getElem?_take] at hl
      split at hl
      · exact h.2 _ v l hv hl
      · cases hl
    · cases hv

theorem RowsAt.append {es : Nat} {r1 r2 : List (List VV)} {c1 c2 : List LV} (h1 : RowsAt w φ lh es r1 c1) (h2 : RowsAt w φ lh es r2 c2) : RowsAt w φ lh es (r1 ++ r2) (c1 ++ c2) := by
  refine ⟨by simp [h1.len,h2.len,Nat.add_mul],fun row hr => ?_,fun i row j v l hr hv hl => ?_⟩
  · rcases List.mem_append.1 hr with h | h
    · exact h1.row row h
    · exact h2.row row h
  · rcases Nat.lt_or_ge i r1.length with hi | hi
    · rw [List.getElem?_append_left hi] at hr
      have hj := lt_of_getElem? hv
      rw [(h1.row row (List.mem_of_getElem? hr)).1] at hj
      have hlt : i * es + j < r1.length * es := by
        have : (i + 1) * es ≤ r1.length * es := Nat.mul_le_mul_right _ hi
        rw [Nat.add_mul,Nat.one_mul] at this
        omega
      rw [List.getElem?_append_left (by rw [h1.len]; exact hlt)] at hl
      exact h1.get i row j v l hr hv hl
    · rw [List.getElem?_append_right hi] at hr
      obtain ⟨k,rfl⟩ : ∃ k,i = r1.length + k := ⟨i - r1.length,by omega⟩
      rw [Nat.add_sub_cancel_left] at hr
      rw [List.getElem?_append_right (by rw [h1.len,Nat.add_mul]; omega),h1.len,Nat.add_mul,show r1.length * es + k * es + j - r1.length * es = k * es + j by omega] at hl
      exact h2.get k row j v l hr hv hl
theorem RowsAt.mono {es : Nat} {r : List (List VV)} {c : List LV} {w' : Own} {φ' : List Nat} {lh' : Heap} (h : RowsAt w φ lh es r c) (hp : PExt φ φ') (fr : Fr w lh w' lh') : RowsAt w' φ' lh' es r c :=
  ⟨h.len,h.row,fun i row j v l a b c => (h.get i row j v l a b c).mono hp fr⟩
/-- A list of rows that lie in a block which nobody holds. -/
theorem RowsAt.list {es b : Nat} {rows : List (List VV)} {cells lcs : List LV} {m : LMode} {full rw : Bool} {off : Nat} (h : RowsAt w φ lh es rows cells) (hw : w b = none) (hb : lh[b]? = some (.cells rw lcs)) (ho : off ≤ lcs.length) (hc : (lcs.drop off).take (rows.length * es) = cells) (hm : m = .f → full = true) : RV w φ lh (.list m rows) (.slice b off rows.length es full) := by
  have hl := h.len
  rw [← hc] at hl
  simp only [List.length_take,List.length_drop] at hl
  refine .list hw hb (by omega) hm h.row (fun i row j v l hrow hv hl => h.get i row j v l hrow hv ?_)
  · have hj := lt_of_getElem? hv
    rw [(h.row row (List.mem_of_getElem? hrow)).1] at hj
    have hi := lt_of_getElem? hrow
    have : (i + 1) * es ≤ rows.length * es := Nat.mul_le_mul_right _ hi
    rw [Nat.add_mul,Nat.one_mul] at this
    rw [← hc,List.getElem?_take,if_pos (by omega),List.getElem?_drop]
    rw [Nat.add_assoc] at hl
    exact hl

theorem sim_bslice {mt : Bool} {len es : Nat} {zs : List LV} {ps : List (Nat × Nat × X)} (H : HS lo w φ vh lh) (E : ES w φ lh env lenv) (hE : opV cf lo (.bslice mt len es zs ps) env vh = some (v,vh')) : OpRes lcf lo w φ env lenv lh (.bslice mt len es zs ps) d v vh' := by
  simp only [opV] at hE
  split at hE
  case h_2 => cases hE
  rename_i cs hf
  obtain ⟨lout,h1,h2⟩ := fill_rv E ps _ _ cs (ofLVs_rv w φ lh zs) hf
  split at hE
  · simp only [Option.some.injEq,Prod.mk.injEq] at hE
    obtain ⟨rfl,rfl⟩ := hE
    exact new_cells (l := .slice lh.length 0 len es true) H E rfl (by simp only [opE,h1]) h2 (fun _ _ _ h => .hs h) (fun r hr => by cases hr)
  · split at hE
    case isFalse => cases hE
    rename_i hc
    simp only [Option.some.injEq,Prod.mk.injEq] at hE
    obtain ⟨rfl,rfl⟩ := hE
    have fr : Fr w lh w (lh ++ [.cells true lout]) := fr_app
    refine ⟨.slice lh.length 0 len es true,lh ++ [.cells true lout],w,φ,by simp only [opE,h1],fr,PExt.refl _,H.mono fr (fun _ => same_app) (fun b hb => H.new b (by simp at hb; omega)),E.mono (PExt.refl _) fr (fun _ => same_app),?_,Tok.no fun r hr => by cases hr⟩
    have hcl : (nrmL cs).length = len * es := by rw [nrmL_length]; exact hc.2
    have hll : lout.length = len * es := by rw [← h2.1]; exact hc.2
    have hat := chunk_at (es := es) (n := len) ((nrmL_rv cs lout h2).mono (PExt.refl φ) fr) (by rw [nrmL_low]; exact hc.1) (by omega)
    rw [List.take_of_length_le (by omega)] at hat
    have := hat.list (b := lh.length) (off := 0) (rw := true) (m := .f) (full := true) (H.new _ (Nat.le_refl _)) (lcs := lout) List.getElem?_concat_length (Nat.zero_le _) (by rw [chunk_length,List.drop_zero,List.take_of_length_le (by omega)]) (fun _ => rfl)
    rwa [chunk_length] at this

theorem HS.cells (H : HS lo w φ vh lh) {n pb : Nat} {rw : Bool} {cs : List VV} (hn : vh[n]? = some (.cells rw cs)) (hp : φ[n]? = some pb) : ∃ lrw lcs,lh[pb]? = some (.cells lrw lcs) ∧ RVs w φ lh cs lcs ∧ lowL (n + 1) cs = true ∧
      if rw = true ∧ lo ≤ n then lrw = true ∧ w pb = some (.blk n) ∧ ∀ (i : Nat) (v : VV) (l : LV),cs[i]? = some v → lcs[i]? = some l → Tok w lh (.cell n i) v l else (w pb = none ∨ w pb = some .ext) := H.blk n _ pb hn hp

theorem sim_load {m ag : Bool} {n : Nat} {a : X} (H : HS lo w φ vh lh) (E : ES w φ lh env lenv) (hE : opV cf lo (.load m ag n a) env vh = some (v,vh')) : OpRes lcf lo w φ env lenv lh (.load m ag n a) d v vh' := by
  simp only [opV] at hE
  have h := E.x a
  split at hE
  · rename_i b off ha
    rw [ha] at h
    generalize hl : a.ev lenv = l at h
    cases h with
    | @ptr _ _ pb hp =>
    split at hE
    case h_2 => cases hE
    rename_i rw cs hb
    obtain ⟨lrw,lcs,h1,h2,h3,h4⟩ := H.cells hb hp
    split at hE
    · rename_i hag
      split at hE
      case isFalse => cases hE
      rename_i hle
      cases hE
      refine OpRes.val H E rfl (by simp only [opE,hl,h1,hag,if_true]; rw [if_pos (by rw [← h2.1]; exact hle)]) (((h2.drop off).take n).map (fun v l h => h.sh)).agg (fun r hr => by cases hr)
    · rename_i hag
      split at hE
      case h_2 => cases hE
      rename_i v0 hv0
      obtain ⟨l0,hl0,hr0⟩ := h2.get hv0
      have hop : opE lcf 0 (.load m ag n a) lenv lh = some (l0,lh) := by simp only [opE,hl,h1,if_neg hag,hl0]
      split at hE
      · split at hE
        case isFalse => cases hE
        rename_i hm hc
        simp only [Option.some.injEq,Prod.mk.injEq] at hE
        obtain ⟨rfl,rfl⟩ := hE
        rw [if_pos hc] at h4
        obtain ⟨h5,h6,h7⟩ := h4
        obtain ⟨w',fr,hk,ht,hn⟩ := (h7 off v0 l0 hv0 hl0).move (o2 := .env d) H.new (by simp)
        refine ⟨l0,lh,w',φ,hop,fr,PExt.refl _,H.upd fr (fun k hkb => Same.of_keep hk fun h => hkb h.symm) (fun pb' hp' => ?_) hn,?_,(hr0.mono (PExt.refl _) fr).ow,Tok.ow (hr0.mono (PExt.refl _) fr) ht⟩
        · rw [hp] at hp'; cases hp'
          refine ⟨lrw,lcs,h1,?_,?_,?_⟩
          · refine ⟨by simp [h2.1],fun i v l hv hl => ?_⟩
            rw [List.getElem?_set] at hv
            split at hv
            · rename_i e; subst e
              split at hv
              · cases hv; rw [hl0] at hl; cases hl; exact (hr0.mono (PExt.refl _) fr).sh
              · cases hv
            · exact (h2.2 i v l hv hl).mono (PExt.refl _) fr
          · refine lowL_of fun v hv => ?_
            rcases List.mem_or_eq_of_mem_set hv with hv | rfl
            · exact lowL_mem h3 v hv
            · rw [low_sh]; exact lowL_get h3 hv0
          · rw [if_pos hc]
            refine ⟨h5,hk pb _ (fun e => by cases e) h6,fun i v l hv hl => ?_⟩
            rw [List.getElem?_set] at hv
            split at hv
            · rename_i e; subst e
              split at hv
              · cases hv; exact Tok.no (sh_ne _)
              · cases hv
            · rename_i e
              exact (h7 i v l hv hl).mono ⟨φ,h2.2 i v l hv hl⟩ fr (Same.of_keep hk fun x => e (by cases x; rfl))
        · exact E.mono (PExt.refl _) fr fun i => Same.of_keep hk fun x => by cases x
      · cases hE
        exact OpRes.val H E rfl hop hr0.sh (sh_ne _)
  · rename_i cs off ha
    rw [ha] at h
    generalize hl : a.ev lenv = l at h
    cases h with
    | @cptr _ b base _ rw lcs hw hb hle hf hh =>
    split at hE
    · rename_i hag
      split at hE
      case isFalse => cases hE
      rename_i hle2
      cases hE
      refine OpRes.val H E rfl (l := .agg ((lcs.drop (base + off)).take n)) (by simp only [opE,hl,hb,hag,if_true]; rw [if_pos (by omega)]) ?_ (fun r hr => by cases hr)
      refine RVs.agg ⟨by simp; omega,fun i v l hv hl => ?_⟩
      rw [List.getElem?_take] at hv hl
      split at hv
      · rename_i hi
        rw [if_pos hi] at hl
        rw [List.getElem?_drop] at hv hl
        rw [Nat.add_assoc] at hl
        exact hh _ v l hv hl
      · cases hv
    · rename_i hag
      split at hE
      case h_2 => cases hE
      rename_i v0 hv0
      cases hE
      have hi := lt_of_getElem? hv0
      have hl0 := List.getElem?_eq_getElem (l := lcs) (i := base + off) (by omega)
      refine OpRes.val H E rfl (l := lcs[base + off]'(by omega)) (by simp only [opE,hl,hb,if_neg hag,hl0]) (hh off v0 _ hv0 hl0).sh (sh_ne _)
  · cases hE

theorem stV_rv {v : VV} {l : LV} (h : RV w φ lh v l) (hs : (stV v).all VV.single = true) : RVs w φ lh (stV v) l.cells := by
  cases h with
  | agg cs ls hl h => exact ow_rvs ⟨hl,h⟩
  | undef => simp [stV,VV.ow,VV.single] at hs
  | _ => exact .cons (RV.ow (by constructor <;> assumption)) .nil

/-- The right goes into the block with what is stored. -/
theorem stV_tok {o1 : Owner} {b off : Nat} {v : VV} {l : LV} (h : RV w φ lh v l) (ht : Tok w lh o1 v l) (hn : ∀ b,lh.length ≤ b → w b = none) (ho : o1 ≠ .ext) : ∃ w' : Own,Fr w lh w' lh ∧ (∀ b x,x ≠ o1 → w b = some x → w' b = some x) ∧ (∀ (i : Nat) (c : VV) (lc : LV),(stV v)[i]? = some c → l.cells[i]? = some lc → Tok w' lh (.cell b (off + i)) c lc) ∧ ∀ b,lh.length ≤ b → w' b = none := by
  by_cases hv : ∃ cs,v = .agg cs
  · obtain ⟨cs,rfl⟩ := hv
    cases h with
    | agg _ ls hl h => exact ⟨w,Fr.refl _ _,fun _ _ _ h => h,ow_tok (φ := φ) ⟨hl,h⟩,hn⟩
  · obtain ⟨w',fr,hk,ht',hn'⟩ := ht.move (o2 := .cell b off) hn ho
    refine ⟨w',fr,hk,fun i c lc hc hlc => ?_,hn'⟩
    have e1 : stV v = [v.ow] := by
      cases v <;> first | rfl | exact absurd ⟨_,rfl⟩ hv
    rw [e1] at hc
    cases i with
    | succ i => simp at hc
    | zero =>
      simp at hc; subst hc
      have e2 : ∀ r,v.ow = .list .o r → l.cells = [l] := by
        intro r hr
        unfold VV.ow at hr
        split at hr
        · cases h <;> rfl
        · subst hr; cases h <;> rfl
      intro r hr
      have := e2 r hr
      rw [this] at hlc
      simp at hlc; subst hlc
      exact Tok.ow (h.mono (PExt.refl _) fr) ht' r hr

theorem sim_store {n : Nat} {a x : X} (H : HS lo w φ vh lh) (E : ES w φ lh env lenv) (hE : opV cf lo (.store n a x) env vh = some (v,vh')) : OpResP lcf lo w φ env lenv vh lh (.store n a x) d v vh' := by
  simp only [opV] at hE
  have h := E.x a
  split at hE
  case h_2 => cases hE
  rename_i b off ha
  rw [ha] at h
  generalize hl : a.ev lenv = l at h
  cases h with
  | @ptr _ _ pb hp =>
  split at hE
  case h_2 => cases hE
  rename_i rw cs hb
  obtain ⟨lrw,lcs,h1,h2,h3,h4⟩ := H.cells hb hp
  split at hE
  case isFalse => cases hE
  rename_i hc
  obtain ⟨hrw,hlo,hn,hle,hsg⟩ := hc
  rw [if_pos ⟨hrw,hlo⟩] at h4
  obtain ⟨rfl,h6,h7⟩ := h4
  have hx := E.x x
  -- who holds the right
  obtain ⟨o1,hoe,ho1,ho2,ht,hstr⟩ : ∃ o1 : Owner,o1 ≠ .ext ∧ (∀ i,o1 ≠ .cell b i) ∧ (∀ m,¬ ofBlk m o1) ∧ Tok w lh o1 (vr env x) (x.ev lenv) ∧ ∀ w' : Own,Fr w lh w' lh → (∀ b x,x ≠ o1 → w b = some x → w' b = some x) → ES w' φ lh (strip (.store n a x) env) lenv := by
    cases x with
    | c c => exact ⟨.env env.length,(by simp),(fun i h => by cases h),fun m h => h,Tok.no (ofLV_ne c),fun w' fr hk =>
        ⟨E.len,fun i v l hv hl => ⟨(E.get i v l hv hl).1.mono (PExt.refl _) fr,(E.get i v l hv hl).2.mono ⟨φ,(E.get i v l hv hl).1⟩ fr (Same.of_keep hk fun h => by have := lt_of_getElem? (l := env) hv; injection h with h; omega)⟩⟩⟩
    | t k => exact ⟨.env k,(by simp),(fun i h => by cases h),fun m h => h,E.tokx k,fun w' fr hk => E.strip fr hk⟩
  obtain ⟨w1,fr1,hk,htk,hn1⟩ := stV_tok (b := b) (off := off) hx ht H.new hoe
  have hvs := stV_rv hx hsg
  have hpb := lt_of_getElem? h1
  let lh' := lh.set pb (.cells true (Lg.splice lcs off (x.ev lenv).cells))
  have keep : ∀ q,q ≠ pb → lh'[q]? = lh[q]? := fun q hq => List.getElem?_set_ne (fun e => hq e.symm)
  have fr2 : Fr w lh w1 lh' := ⟨by simp [lh'],fun q hq hw => ⟨(fr1.keep q hq hw).1,keep q (by rintro rfl; rw [h6] at hw; cases hw)⟩,fun q hq hw => ⟨(fr1.ext q hq hw).1,keep q (by rintro rfl; rw [h6] at hw; cases hw)⟩⟩
  have fr3 : Fr w1 lh w1 lh' := ⟨by simp [lh'],fun q hq hw => ⟨hw,keep q (by rintro rfl; rw [hk q _ (fun e => ho2 b (by rw [← e]; rfl)) h6] at hw; cases hw)⟩,fun q hq hw => ⟨hw,keep q (by rintro rfl; rw [hk q _ (fun e => ho2 b (by rw [← e]; rfl)) h6] at hw; cases hw)⟩⟩
  have same2 : ∀ P : Owner → Prop,¬ P o1 → ¬ P (.blk b) → Same P w lh w1 lh' := fun P hp1 hp2 q y hq hw hy =>
    ⟨hk q y (fun e => hp1 (e ▸ hy)) hw,keep q (by rintro rfl; rw [h6] at hw; cases hw; exact hp2 hy)⟩
  have same3 : ∀ P : Owner → Prop,¬ P (.blk b) → Same P w1 lh w1 lh' := fun P hp2 q y hq hw hy =>
    ⟨hw,keep q (by rintro rfl; rw [hk q _ (fun e => ho2 b (by rw [← e]; rfl)) h6] at hw; cases hw; exact hp2 hy)⟩
  have hrv2 := h2.mono (PExt.refl φ) fr2
  have hvs2 := hvs.mono (PExt.refl φ) fr2
  have htoks : ∀ (i : Nat) (y : VV) (ly : LV),(vsplice cs off (stV (vr env x)))[i]? = some y → (Lg.splice lcs off (x.ev lenv).cells)[i]? = some ly → Tok w1 lh' (.cell b i) y ly := by
    intro i y ly hy hly
    have old : ∀ (j : Nat),cs[j]? = some y → lcs[j]? = some ly → Tok w1 lh' (.cell b j) y ly := fun j a1 a2 =>
      (h7 j y ly a1 a2).mono ⟨φ,h2.2 j y ly a1 a2⟩ fr2 (same2 _ (fun e => ho1 j e) (fun e => by cases e))
    have hl1 := h2.1
    have hl2 := hvs.1
    unfold vsplice at hy
    unfold Lg.splice at hly
    rcases Nat.lt_or_ge i off with hi | hi
    · rw [List.append_assoc,List.getElem?_append_left (by simp; omega),List.getElem?_take,if_pos hi] at hy hly
      exact old i hy hly
    · rcases Nat.lt_or_ge i (off + (stV (vr env x)).length) with hj | hj
      · obtain ⟨j,rfl⟩ : ∃ j,i = off + j := ⟨i - off,by omega⟩
        rw [List.append_assoc,List.getElem?_append_right (by simp; omega)] at hy hly
        simp only [List.length_take,Nat.min_eq_left (show off ≤ cs.length by omega),Nat.min_eq_left (show off ≤ lcs.length by omega),Nat.add_sub_cancel_left] at hy hly
        rw [List.getElem?_append_left (by omega)] at hy hly
        exact (htk j y ly hy hly).mono ⟨φ,(hvs.2 j y ly hy hly).mono (PExt.refl _) fr1⟩ fr3 (same3 _ (by intro h; cases h))
      · rw [List.getElem?_append_right (by simp; omega),List.getElem?_drop] at hy hly
        simp only [List.length_append,List.length_take] at hy hly
        have e1 : off + (stV (vr env x)).length + (i - (min off cs.length + (stV (vr env x)).length)) = i := by omega
        have e2 : off + (x.ev lenv).cells.length + (i - (min off lcs.length + (x.ev lenv).cells.length)) = i := by omega
        rw [e1] at hy; rw [e2] at hly
        exact old i hy hly
  split at hE
  case isTrue hlow =>
    simp only [Option.some.injEq,Prod.mk.injEq] at hE
    obtain ⟨rfl,rfl⟩ := hE
    refine ⟨.tup [],lh',w1,φ,?_,fr2,PExt.refl _,H.upd fr2 (fun m hm => same2 _ (ho2 m) (fun h => hm h.symm)) (fun pb' hp' => ?_) (fun q hq => hn1 q (by simpa [lh'] using hq)),?_,RVs.nil.tup,Tok.no fun r hr => by cases hr⟩
    · simp only [opE,hl,h1]
      rw [if_pos ⟨trivial,Nat.zero_le _,by rw [← hvs.1]; exact hn,by rw [← h2.1]; exact hle,hvs.single hsg⟩]
    · rw [hp] at hp'; cases hp'
      refine ⟨true,_,List.getElem?_set_self hpb,hrv2.splice hvs2 off,?_,?_⟩
      · refine lowL_of fun y hy => ?_
        unfold vsplice at hy
        rcases List.mem_append.1 hy with hy | hy
        · rcases List.mem_append.1 hy with hy | hy
          · exact lowL_mem h3 y (List.mem_of_mem_take hy)
          · exact lowL_mem hlow y hy
        · exact lowL_mem h3 y (List.mem_of_mem_drop hy)
      · rw [if_pos ⟨hrw,hlo⟩]
        exact ⟨rfl,hk pb _ (fun e => ho2 b (by rw [← e]; rfl)) h6,htoks⟩
    · have e : post (.store n a x) env vh = strip (.store n a x) env := by
        cases a with
        | c c => rfl
        | t k => simp only [vr] at ha; simp only [post,mvF,ha,hlow,if_true]
      rw [e]
      exact (hstr w1 fr1 hk).mono (PExt.refl _) fr3 (fun i => same3 _ (by intro h; cases h))
  case isFalse hlow =>
    cases a with
    | c c => simp only at hE; cases hE
    | t k =>
    simp only [Option.some.injEq,Prod.mk.injEq] at hE
    obtain ⟨rfl,rfl⟩ := hE
    let w2 : Own := fun q => if q = pb then some (.blk vh.length) else match w1 q with
      | some (.cell m i) => if m = b then some (.cell vh.length i) else some (.cell m i)
      | o => o
    have h6' : w1 pb = some (.blk b) := hk pb _ (fun e => ho2 b (by rw [← e]; rfl)) h6
    have w2n : ∀ q o,q ≠ pb → w1 q = o → (∀ i,o ≠ some (.cell b i)) → w2 q = o := by
      intro q o hq hw ho
      simp only [w2,if_neg hq,hw]
      split
      · rename_i m i
        by_cases e : m = b
        · subst e; exact absurd rfl (ho i)
        · rw [if_neg e]
      · rfl
    have fr4 : Fr w lh w2 lh' := ⟨fr2.le,fun q hq hw => ⟨w2n q _ (by rintro rfl; rw [h6] at hw; cases hw) (fr2.keep q hq hw).1 (fun i h => by cases h),(fr2.keep q hq hw).2⟩,fun q hq hw => ⟨w2n q _ (by rintro rfl; rw [h6] at hw; cases hw) (fr2.ext q hq hw).1 (fun i h => by cases h),(fr2.ext q hq hw).2⟩⟩
    have fr5 : Fr w1 lh w2 lh' := ⟨fr3.le,fun q hq hw => ⟨w2n q _ (by rintro rfl; rw [h6'] at hw; cases hw) hw (fun i h => by cases h),(fr3.keep q hq hw).2⟩,fun q hq hw => ⟨w2n q _ (by rintro rfl; rw [h6'] at hw; cases hw) hw (fun i h => by cases h),(fr3.ext q hq hw).2⟩⟩
    have fr6 : Fr w1 lh' w2 lh' := ⟨Nat.le_refl _,fun q hq hw => ⟨w2n q _ (by rintro rfl; rw [h6'] at hw; cases hw) hw (fun i h => by cases h),rfl⟩,fun q hq hw => ⟨w2n q _ (by rintro rfl; rw [h6'] at hw; cases hw) hw (fun i h => by cases h),rfl⟩⟩
    have same4 : ∀ P : Owner → Prop,¬ P o1 → ¬ P (.blk b) → (∀ i,¬ P (.cell b i)) → Same P w lh w2 lh' := fun P hp1 hp2 hp3 q y hq hw hy => by
      obtain ⟨e1,e2⟩ := same2 P hp1 hp2 q y hq hw hy
      exact ⟨w2n q _ (by rintro rfl; rw [h6] at hw; cases hw; exact hp2 hy) e1 (fun i h => by cases h; exact hp3 i hy),e2⟩
    have same5 : ∀ P : Owner → Prop,¬ P (.blk b) → (∀ i,¬ P (.cell b i)) → Same P w1 lh w2 lh' := fun P hp2 hp3 q y hq hw hy => by
      obtain ⟨e1,e2⟩ := same3 P hp2 q y hq hw hy
      exact ⟨w2n q _ (by rintro rfl; rw [h6'] at hw; cases hw; exact hp2 hy) e1 (fun i h => by cases h; exact hp3 i hy),e2⟩
    have hn2 : ∀ q,lh'.length ≤ q → w2 q = none := fun q hq => by
      have hq' : lh.length ≤ q := by simpa [lh'] using hq
      exact w2n q _ (by omega) (hn1 q hq') (fun i h => by cases h)
    have hpbl : lh'[pb]? = some (.cells true (Lg.splice lcs off (x.ev lenv).cells)) := List.getElem?_set_self hpb
    have H1 : HS lo w2 φ (vh.set b .dead) lh' := H.upd fr4 (fun m hm => same4 _ (ho2 m) (fun h => hm h.symm) (fun i h => hm h.symm)) (fun pb' hp' => True.intro) hn2
    have hcs := (hrv2.splice hvs2 off)
    have hcs2 := hcs.mono (PExt.app φ [pb]) fr6
    have hlen : (vh.set b VBlk.dead).length = vh.length := by simp
    have H2 : HS lo w2 (φ ++ [pb]) (vh.set b .dead ++ [.cells rw (vsplice cs off (stV (vr env x)))]) lh' := by
      refine H1.push (Fr.refl w2 lh') (fun m hm q y hq hw hy => ⟨hw,rfl⟩) ?_ hn2
      rw [hlen]
      refine ⟨true,_,hpbl,hcs2,lowL_mono (by have := H.len; omega) _ hcs.low,?_⟩
      rw [if_pos ⟨hrw,H.lol⟩]
      refine ⟨rfl,by simp only [w2,if_true],fun i y ly hy hly r hr => ?_⟩
      rcases htoks i y ly hy hly r hr with h | h | ⟨q,off',len,es,lcs',q1,q2,q3,q4,q5⟩
      · exact .inl h
      · exact .inr (.inl h)
      · refine .inr (.inr ⟨q,off',len,es,lcs',q1,q2,q3,?_,q5⟩)
        have : q + 1 ≠ pb := by rintro rfl; rw [hpbl] at q3; cases q3
        simp only [w2,if_neg this,q4,if_true]
    refine ⟨.tup [],lh',w2,φ ++ [pb],?_,fr4,PExt.app _ _,H2,?_,RVs.nil.tup,Tok.no fun r hr => by cases hr⟩
    · simp only [opE,hl,h1]
      rw [if_pos ⟨trivial,Nat.zero_le _,by rw [← hvs.1]; exact hn,by rw [← h2.1]; exact hle,hvs.single hsg⟩]
    · have e : post (.store n (.t k) x) env vh = (strip (.store n (.t k) x) env).set k (.ptr vh.length off) := by
        simp only [vr] at ha; simp only [post,mvF,ha,hlow]; rfl
      rw [e]
      have E2 : ES w2 (φ ++ [pb]) lh' (strip (.store n (.t k) x) env) lenv := (hstr w1 fr1 hk).mono (PExt.app _ _) fr5 (fun i => same5 _ (by intro h; cases h) (fun j h => by cases h))
      refine ⟨by rw [List.length_set]; exact E2.len,fun i y ly hy hly => ?_⟩
      rw [List.getElem?_set] at hy
      split at hy
      · rename_i hki
        subst hki
        split at hy
        · cases hy
          simp only [X.ev,List.getD_eq_getElem?_getD,hly,Option.getD_some] at hl
          subst hl
          exact ⟨.ptr (by rw [← H.len]; exact List.getElem?_concat_length),Tok.no fun r hr => by cases hr⟩
        · cases hy
      · exact E2.get i y ly hy hly
end
end Vg
/- Operations,continued: scalars,comparisons,fields and indices,slices,lengths. -/
namespace Vg
open Go Lg
set_option linter.unusedSimpArgs false
set_option linter.unusedVariables false
set_option maxHeartbeats 1000000
section
variable {cf : VCall} {lcf : CallF} {lo : Nat} {w : Own} {φ : List Nat} {env : VEnv} {lenv : Env} {vh vh' : VHeap} {lh : Heap} {d : Nat} {v : VV}

theorem sim_nilchk {x : X} (H : HS lo w φ vh lh) (E : ES w φ lh env lenv) (hE : opV cf lo (.nilchk x) env vh = some (v,vh')) : OpRes lcf lo w φ env lenv lh (.nilchk x) d v vh' := by
  simp only [opV] at hE
  have h := E.x x
  split at hE <;> first | (cases hE; done) | skip
  · rename_i b off hs
    cases hE; rw [hs] at h
    generalize hl : x.ev lenv = l at h
    cases h with | ptr h => exact OpRes.val H E rfl (by simp only [opE,hl]) (.ptr h) (fun r hr => by cases hr)
  · rename_i cs off hs
    cases hE; rw [hs] at h
    generalize hl : x.ev lenv = l at h
    cases h with | cptr a b c d' e => exact OpRes.val H E rfl (by simp only [opE,hl]) (.cptr a b c d' e) (fun r hr => by cases hr)
  · rename_i f caps hs
    cases hE; rw [hs] at h
    generalize hl : x.ev lenv = l at h
    cases h with | func _ _ ls a b => exact OpRes.val H E rfl (by simp only [opE,hl]) (.func _ _ ls a b) (fun r hr => by cases hr)

theorem binE_sc {op : BinOp} {a b r : LV} (h : binE op a b = some r) : a ≠ .undef ∧ b ≠ .undef := by
  constructor <;> rintro rfl
  · simp [binE] at h
  · cases a <;> simp [binE] at h

theorem sim_bin {op : BinOp} {x y : X} (H : HS lo w φ vh lh) (E : ES w φ lh env lenv) (hE : opV cf lo (.bin op x y) env vh = some (v,vh')) : OpRes lcf lo w φ env lenv lh (.bin op x y) d v vh' := by
  simp only [opV] at hE
  split at hE
  case h_2 => cases hE
  rename_i r hr
  cases hE
  obtain ⟨h1,h2⟩ := binE_sc hr
  refine OpRes.val H E rfl (l := r) ?_ (ofLV_rv _ _ _ r) (ofLV_ne r)
  simp only [opE]
  rw [(E.x x).sc h1,(E.x y).sc h2,hr]

theorem sim_un {op : UnOp} {x : X} (H : HS lo w φ vh lh) (E : ES w φ lh env lenv) (hE : opV cf lo (.un op x) env vh = some (v,vh')) : OpRes lcf lo w φ env lenv lh (.un op x) d v vh' := by
  simp only [opV] at hE
  split at hE
  case h_2 => cases hE
  rename_i r hr
  cases hE
  have h1 : (vr env x).sc ≠ .undef := fun e => by rw [e] at hr; simp [unE] at hr
  refine OpRes.val H E rfl (l := r) ?_ (ofLV_rv _ _ _ r) (ofLV_ne r)
  simp only [opE]
  rw [(E.x x).sc h1,hr]

theorem sim_conv {k : IntKind} {x : X} (H : HS lo w φ vh lh) (E : ES w φ lh env lenv) (hE : opV cf lo (.conv k x) env vh = some (v,vh')) : OpRes lcf lo w φ env lenv lh (.conv k x) d v vh' := by
  simp only [opV] at hE
  have h := E.x x
  split at hE
  case h_2 => cases hE
  rename_i k0 n hs
  cases hE; rw [hs] at h
  generalize hl : x.ev lenv = l at h
  cases h
  exact OpRes.val H E rfl (by simp only [opE,hl]) (.int _ _) (fun r hr => by cases hr)

/-- What a comparison sees. -/
inductive CL : LV → LV → Prop where
  | refl (l : LV) : CL l l
  | undef (l : LV) : CL .undef l
  | ptr (b off : Nat) : CL (.ptr 0 0) (.ptr b off)
  | slice (n off len es : Nat) (f : Bool) : CL (.slice 0 0 0 0 false) (.slice n off len es f)
  | map (n : Nat) : CL (.map 0) (.map n)
  | func (f g : FuncId) (cs : List LV) : CL (.func f []) (.func g cs)
  | iface (t : TypeId) (v : LV) : CL (.iface t .undef) (.iface t v)
  | agg (cs ls : List LV) (hl : cs.length = ls.length) (h : ∀ (i : Nat) (c l : LV),cs[i]? = some c → ls[i]? = some l → c = .undef ∨ c = l) : CL (.agg cs) (.agg ls)

theorem CL.of {v : VV} {l : LV} (h : RV w φ lh v l) : CL (cmpV v) l := by
  cases h with
  | undef => exact .undef _
  | bool => exact .refl _
  | int => exact .refl _
  | str => exact .refl _
  | ptr => exact .ptr _ _
  | cptr => exact .ptr _ _
  | nilptr => exact .refl _
  | nil => exact .undef _
  | list0 => exact .undef _
  | @list m rows _ _ _ _ _ _ =>
    cases rows with
    | nil => exact .undef _
    | cons => exact .slice _ _ _ _ _
  | hs => exact .undef _
  | map => exact .map _
  | nilmap => exact .refl _
  | func => exact .func _ _ _
  | nilfunc => exact .refl _
  | iface => exact .iface _ _
  | nilif => exact .refl _
  | agg cs ls hl h =>
    refine .agg _ _ (by simp [hl]) fun i c l hc hl' => ?_
    rw [List.getElem?_map] at hc
    obtain ⟨v,hv,rfl⟩ := Option.map_eq_some_iff.1 hc
    by_cases hs : v.sc = .undef
    · exact .inl hs
    · exact .inr ((h i v l hv hl').sc hs).symm
  | tup => exact .undef _

theorem eqL_cl : ∀ (ks : List CK) (c1 c2 l1 l2 : List LV) (b : Bool),c1.length = l1.length → c2.length = l2.length → (∀ (i : Nat) (c l : LV),c1[i]? = some c → l1[i]? = some l → c = .undef ∨ c = l) → (∀ (i : Nat) (c l : LV),c2[i]? = some c → l2[i]? = some l → c = .undef ∨ c = l) → eqL ks c1 c2 = some b → eqL ks l1 l2 = some b := by
  intro ks
  induction ks with
  | nil =>
    intro c1 c2 l1 l2 b h1 h2 _ _ h
    cases c1 <;> cases c2 <;> simp [eqL] at h
    have := List.length_eq_zero_iff.1 h1.symm
    have := List.length_eq_zero_iff.1 h2.symm
    subst_vars
    simp [eqL]
  | cons k ks ih =>
    intro c1 c2 l1 l2 b h1 h2 g1 g2 h
    cases c1 with
    | nil => cases k <;> simp [eqL] at h
    | cons a1 c1 =>
    cases c2 with
    | nil => cases k <;> cases a1 <;> simp [eqL] at h
    | cons a2 c2 =>
    cases l1 with
    | nil => simp at h1
    | cons b1 l1 =>
    cases l2 with
    | nil => simp at h2
    | cons b2 l2 =>
    have e1 := g1 0 a1 b1 rfl rfl
    have e2 := g2 0 a2 b2 rfl rfl
    have rest := ih c1 c2 l1 l2 b (by simpa using h1) (by simpa using h2) (fun i c l hc hl => g1 (i + 1) c l (by simpa using hc) (by simpa using hl)) (fun i c l hc hl => g2 (i + 1) c l (by simpa using hc) (by simpa using hl))
    have n1 : a1 ≠ .undef := by rintro rfl; cases k <;> simp [eqL] at h
    have n2 : a2 ≠ .undef := by rintro rfl; cases k <;> cases a1 <;> simp [eqL] at h
    rcases e1 with e1 | rfl
    · exact absurd e1 n1
    rcases e2 with e2 | rfl
    · exact absurd e2 n2
    cases k <;> cases a1 <;> first | (simp [eqL] at h; done) | skip
    all_goals (cases a2 <;> first | (simp [eqL] at h; done) | (simp only [eqL] at h ⊢))
    · split at h
      · rename_i hq; rw [if_pos hq]; exact rest h
      · rename_i hq; rw [if_neg hq]; exact h
    · split at h
      · rename_i hk
        rw [if_pos hk]
        split at h
        · rename_i hq; rw [if_pos hq]; exact rest h
        · rename_i hq; rw [if_neg hq]; exact h
      · cases h
    · split at h
      · rename_i hq; rw [if_pos hq]; exact rest h
      · rename_i hq; rw [if_neg hq]; exact h

theorem eqE_cl {k : EK} {c1 c2 l1 l2 : LV} {b : Bool} (h1 : CL c1 l1) (h2 : CL c2 l2) (h : eqE k c1 c2 = some b) : eqE k l1 l2 = some b := by
  unfold eqE at h
  split at h <;> first | (cases h; done) | skip
  case h_1 ks a b' =>
    split at h
    case isFalse => cases h
    rename_i hc
    have e1 : ∃ ls,l1 = .agg ls ∧ a.length = ls.length ∧ ∀ (i : Nat) (c l : LV),a[i]? = some c → ls[i]? = some l → c = .undef ∨ c = l := by
      cases h1 with
      | refl => exact ⟨a,rfl,rfl,fun i c l hc hl => by rw [hc] at hl; cases hl; exact .inr rfl⟩
      | agg _ ls hl h => exact ⟨ls,rfl,hl,h⟩
    have e2 : ∃ ls,l2 = .agg ls ∧ b'.length = ls.length ∧ ∀ (i : Nat) (c l : LV),b'[i]? = some c → ls[i]? = some l → c = .undef ∨ c = l := by
      cases h2 with
      | refl => exact ⟨b',rfl,rfl,fun i c l hc hl => by rw [hc] at hl; cases hl; exact .inr rfl⟩
      | agg _ ls hl h => exact ⟨ls,rfl,hl,h⟩
    obtain ⟨x,rfl,hx,gx⟩ := e1
    obtain ⟨y,rfl,hy,gy⟩ := e2
    simp only [eqE]
    rw [if_pos ⟨by rw [← hx]; exact hc.1,by rw [← hy]; exact hc.2⟩]
    exact eqL_cl ks a b' x y b hx hy gx gy h
  all_goals (cases h1 <;> cases h2 <;> first | exact h | (simp only [eqE]; exact h) | skip)

theorem ES.cmp (E : ES w φ lh env lenv) (x : X) : CL (cmpX env x) (x.ev lenv) := by
  cases x with
  | c c => exact .refl _
  | t n => exact CL.of (E.x (.t n))

theorem sim_eqv {ng : Bool} {k : EK} {x y : X} (H : HS lo w φ vh lh) (E : ES w φ lh env lenv) (hE : opV cf lo (.eqv ng k x y) env vh = some (v,vh')) : OpRes lcf lo w φ env lenv lh (.eqv ng k x y) d v vh' := by
  simp only [opV] at hE
  split at hE
  case h_2 => cases hE
  rename_i b hb
  cases hE
  exact OpRes.val H E rfl (by simp only [opE,eqE_cl (E.cmp x) (E.cmp y) hb]) (.bool _) (fun r hr => by cases hr)

theorem nat_rv {v : VV} {l : LV} {n : Nat} (h : RV w φ lh v l) (hn : nat? v = some n) : asNat l = some n := by
  unfold nat? at hn
  split at hn
  · cases h; exact hn
  · cases hn
theorem bnds_rv (E : ES w φ lh env lenv) {len : Nat} {a b : Option X} {r : Nat × Nat} (h : vbnds env len a b = some r) : bnds lenv len a b = some r := by
  unfold vbnds at h
  unfold bnds
  have key : ∀ (x : X) (n : Nat),nat? (vr env x) = some n → asNat (x.ev lenv) = some n := fun x n => nat_rv (E.x x)
  cases a <;> cases b <;> simp only at h ⊢
  · exact h
  · rename_i y
    cases hy : nat? (vr env y) with
    | none => rw [hy] at h; cases h
    | some n => rw [hy] at h; rw [key y n hy]; exact h
  · rename_i x
    cases hx : nat? (vr env x) with
    | none => rw [hx] at h; cases h
    | some n => rw [hx] at h; rw [key x n hx]; exact h
  · rename_i x y
    cases hx : nat? (vr env x) with
    | none => rw [hx] at h; cases h
    | some n =>
      rw [hx] at h; rw [key x n hx]
      cases hy : nat? (vr env y) with
      | none => rw [hy] at h; cases h
      | some n => rw [hy] at h; rw [key y n hy]; exact h
theorem vbnds_le {len : Nat} {a b : Option X} {l e : Nat} (h : vbnds env len a b = some (l,e)) : l ≤ e ∧ e ≤ len := by
  unfold vbnds at h
  simp only at h
  split at h
  · split at h
    · rename_i hc; cases h; exact hc
    · cases h
  · cases h

theorem sim_s2b {x : X} (H : HS lo w φ vh lh) (E : ES w φ lh env lenv) (hE : opV cf lo (.s2b x) env vh = some (v,vh')) : OpRes lcf lo w φ env lenv lh (.s2b x) d v vh' := by
  simp only [opV] at hE
  have h := E.x x
  split at hE
  case h_2 => cases hE
  rename_i s hs
  simp only [Option.some.injEq,Prod.mk.injEq] at hE
  obtain ⟨rfl,rfl⟩ := hE
  rw [hs] at h
  generalize hl : x.ev lenv = l at h
  cases h
  have fr : Fr w lh w (lh ++ [.cells true (s.map fun b => .int .u8 b.toNat)]) := fr_app
  refine ⟨.slice lh.length 0 s.length 1 false,_,w,φ,by simp only [opE,hl],fr,PExt.refl _,H.mono fr (fun _ => same_app) (fun b hb => H.new b (by simp at hb; omega)),E.mono (PExt.refl _) fr (fun _ => same_app),?_,Tok.no fun r hr => by cases hr⟩
  have := RV.list (w := w) (φ := φ) (lh := lh ++ [.cells true (s.map fun b => LV.int .u8 b.toNat)]) (m := .s) (rows := s.map fun b => [VV.int .u8 b.toNat]) (b := lh.length) (off := 0) (es := 1) (full := false) (rw := true) (lcs := s.map fun b => LV.int .u8 b.toNat) (H.new _ (Nat.le_refl _)) List.getElem?_concat_length (by simp) (fun h => by cases h)
    (fun row hr => by obtain ⟨b,_,rfl⟩ := List.mem_map.1 hr; exact ⟨rfl,rfl⟩) (fun i row j v l hrow hv hl => by
      rw [List.getElem?_map] at hrow
      obtain ⟨b,hb,rfl⟩ := Option.map_eq_some_iff.1 hrow
      cases j with
      | succ j => simp at hv
      | zero =>
        simp at hv; subst hv
        rw [List.getElem?_map] at hl
        simp only [Nat.zero_add,Nat.mul_one,Nat.add_zero] at hl
        rw [hb] at hl
        simp at hl; subst hl
        exact .int _ _)
  simpa using this

theorem sim_fieldAddr {k : Nat} {x : X} (H : HS lo w φ vh lh) (E : ES w φ lh env lenv) (hE : opV cf lo (.fieldAddr k x) env vh = some (v,vh')) : OpRes lcf lo w φ env lenv lh (.fieldAddr k x) d v vh' := by
  simp only [opV] at hE
  have h := E.x x
  split at hE <;> first | (cases hE; done) | skip
  · rename_i b off hs
    cases hE; rw [hs] at h
    generalize hl : x.ev lenv = l at h
    cases h with | ptr h => exact OpRes.val H E rfl (by simp only [opE,hl]) (.ptr h) (fun r hr => by cases hr)
  · rename_i cs off hs
    cases hE; rw [hs] at h
    generalize hl : x.ev lenv = l at h
    cases h with
    | cptr a b c d' e => exact OpRes.val H E rfl (by simp only [opE,hl,Nat.add_assoc]) (.cptr a b c d' e) (fun r hr => by cases hr)

theorem sim_field {ag : Bool} {off n : Nat} {x : X} (H : HS lo w φ vh lh) (E : ES w φ lh env lenv) (hE : opV cf lo (.field ag off n x) env vh = some (v,vh')) : OpRes lcf lo w φ env lenv lh (.field ag off n x) d v vh' := by
  simp only [opV] at hE
  have h := E.x x
  split at hE <;> first | (cases hE; done) | skip
  rename_i cs hs
  rw [hs] at h
  generalize hl : x.ev lenv = l at h
  cases h with
  | agg _ ls hll hh =>
  have hr : RVs w φ lh cs ls := ⟨hll,hh⟩
  split at hE
  · rename_i hag
    split at hE
    case isFalse => cases hE
    rename_i hle
    cases hE
    exact OpRes.val H E rfl (by simp only [opE,hl,hag,if_true]; rw [if_pos (by rw [← hll]; exact hle)]) ((hr.drop off).take n).agg (fun r hr => by cases hr)
  · rename_i hag
    split at hE
    case h_2 => cases hE
    rename_i v0 hv0
    cases hE
    obtain ⟨l0,hl0,hr0⟩ := hr.get hv0
    exact OpRes.val H E rfl (by simp only [opE,hl,if_neg hag,hl0]) hr0.sh (sh_ne _)

theorem sim_indexA {ag : Bool} {len es : Nat} {x i : X} (H : HS lo w φ vh lh) (E : ES w φ lh env lenv) (hE : opV cf lo (.indexA ag len es x i) env vh = some (v,vh')) : OpRes lcf lo w φ env lenv lh (.indexA ag len es x i) d v vh' := by
  simp only [opV] at hE
  have h := E.x x
  split at hE <;> first | (cases hE; done) | skip
  rename_i cs j hs hj
  have hj' := nat_rv (E.x i) hj
  rw [hs] at h
  generalize hl : x.ev lenv = l at h
  cases h with
  | agg _ ls hll hh =>
  have hr : RVs w φ lh cs ls := ⟨hll,hh⟩
  split at hE
  case isFalse => cases hE
  rename_i hjl
  split at hE
  · rename_i hag
    split at hE
    case isFalse => cases hE
    rename_i hle
    cases hE
    exact OpRes.val H E rfl (by simp only [opE,hl,hj',hag,if_true]; rw [if_pos hjl,if_pos (by rw [← hll]; exact hle)]) ((hr.drop _).take es).agg (fun r hr => by cases hr)
  · rename_i hag
    split at hE
    case h_2 => cases hE
    rename_i v0 hv0
    cases hE
    obtain ⟨l0,hl0,hr0⟩ := hr.get hv0
    exact OpRes.val H E rfl (by simp only [opE,hl,hj',if_neg hag,hl0]; rw [if_pos hjl]) hr0.sh (sh_ne _)

theorem sim_indexAddr {es : Nat} {x i : X} (H : HS lo w φ vh lh) (E : ES w φ lh env lenv) (hE : opV cf lo (.indexAddr es x i) env vh = some (v,vh')) : OpRes lcf lo w φ env lenv lh (.indexAddr es x i) d v vh' := by
  simp only [opV] at hE
  have h := E.x x
  split at hE
  case h_2 => cases hE
  rename_i j hj
  have hj' := nat_rv (E.x i) hj
  split at hE
  · rename_i m rows hs
    split at hE
    case h_2 => cases hE
    rename_i row hrow
    split at hE
    case isFalse => cases hE
    rename_i hes
    cases hE
    rw [hs] at h
    generalize hl : x.ev lenv = l at h
    cases h with
    | nil => simp at hrow
    | list0 => simp at hrow
    | @list _ _ b off es' full rw lcs hw hb hle hm hr hh =>
      have h1 := hr row (List.mem_of_getElem? hrow)
      have : es' = es := h1.1.symm.trans hes
      subst this
      have hjl := lt_of_getElem? hrow
      have h2 : (j + 1) * es' ≤ rows.length * es' := Nat.mul_le_mul_right _ hjl
      rw [Nat.add_mul,Nat.one_mul] at h2
      refine OpRes.val H E rfl (l := .ptr b (off + j * es')) (by simp only [opE,hl,hj']; rw [if_pos ⟨trivial,hjl⟩]) ?_ (fun r hr => by cases hr)
      exact .cptr (base := off + j * es') (off := 0) hw hb (by omega) h1.2 (fun k v l hv hl => hh j row k v l hrow hv hl)
  · rename_i n off len es' hs
    split at hE
    case isFalse => cases hE
    rename_i hc
    cases hE
    rw [hs] at h
    generalize hl : x.ev lenv = l at h
    cases h with
    | hs hp => exact OpRes.val H E rfl (by simp only [opE,hl,hj']; rw [if_pos hc]) (.ptr hp) (fun r hr => by cases hr)
  · cases hE

theorem sim_indexAddrA {len es : Nat} {x i : X} (H : HS lo w φ vh lh) (E : ES w φ lh env lenv) (hE : opV cf lo (.indexAddrA len es x i) env vh = some (v,vh')) : OpRes lcf lo w φ env lenv lh (.indexAddrA len es x i) d v vh' := by
  simp only [opV] at hE
  have h := E.x x
  split at hE <;> first | (cases hE; done) | skip
  · rename_i b off j hs hj
    have hj' := nat_rv (E.x i) hj
    split at hE
    case isFalse => cases hE
    rename_i hc
    cases hE; rw [hs] at h
    generalize hl : x.ev lenv = l at h
    cases h with | ptr h => exact OpRes.val H E rfl (by simp only [opE,hl,hj']; rw [if_pos hc]) (.ptr h) (fun r hr => by cases hr)
  · rename_i cs off j hs hj
    have hj' := nat_rv (E.x i) hj
    split at hE
    case isFalse => cases hE
    rename_i hc
    cases hE; rw [hs] at h
    generalize hl : x.ev lenv = l at h
    cases h with
    | cptr a b c d' e => exact OpRes.val H E rfl (by simp only [opE,hl,hj',Nat.add_assoc]; rw [if_pos hc]) (.cptr a b c d' e) (fun r hr => by cases hr)

theorem sim_index {x i : X} (H : HS lo w φ vh lh) (E : ES w φ lh env lenv) (hE : opV cf lo (.index x i) env vh = some (v,vh')) : OpRes lcf lo w φ env lenv lh (.index x i) d v vh' := by
  simp only [opV] at hE
  have h := E.x x
  split at hE <;> first | (cases hE; done) | skip
  rename_i s j hs hj
  have hj' := nat_rv (E.x i) hj
  split at hE
  case h_2 => cases hE
  rename_i b hb
  cases hE; rw [hs] at h
  generalize hl : x.ev lenv = l at h
  cases h
  exact OpRes.val H E rfl (by simp only [opE,hl,hj',hb]) (.int _ _) (fun r hr => by cases hr)

theorem sim_extract {i : Nat} {x : X} (H : HS lo w φ vh lh) (E : ES w φ lh env lenv) (hE : opV cf lo (.extract i x) env vh = some (v,vh')) : OpRes lcf lo w φ env lenv lh (.extract i x) d v vh' := by
  simp only [opV] at hE
  have h := E.x x
  split at hE <;> first | (cases hE; done) | skip
  rename_i vs hs
  split at hE
  case h_2 => cases hE
  rename_i v0 hv0
  cases hE; rw [hs] at h
  generalize hl : x.ev lenv = l at h
  cases h with
  | tup _ ls hll hh =>
  obtain ⟨l0,hl0,hr0⟩ := RVs.get ⟨hll,hh⟩ hv0
  exact OpRes.val H E rfl (by simp only [opE,hl,hl0]) hr0.sh (sh_ne _)

theorem sim_lenS {x : X} (H : HS lo w φ vh lh) (E : ES w φ lh env lenv) (hE : opV cf lo (.lenS x) env vh = some (v,vh')) : OpRes lcf lo w φ env lenv lh (.lenS x) d v vh' := by
  simp only [opV] at hE
  have h := E.x x
  split at hE <;> first | (cases hE; done) | skip
  rename_i s hs
  cases hE; rw [hs] at h
  generalize hl : x.ev lenv = l at h
  cases h
  exact OpRes.val H E rfl (by simp only [opE,hl]) (.int _ _) (fun r hr => by cases hr)
theorem sim_lenL {x : X} (H : HS lo w φ vh lh) (E : ES w φ lh env lenv) (hE : opV cf lo (.lenL x) env vh = some (v,vh')) : OpRes lcf lo w φ env lenv lh (.lenL x) d v vh' := by
  simp only [opV] at hE
  have h := E.x x
  split at hE <;> first | (cases hE; done) | skip
  · rename_i m r hs
    cases hE; rw [hs] at h
    generalize hl : x.ev lenv = l at h
    cases h <;> exact OpRes.val H E rfl (by first | (simp only [opE,hl]; done) | (simp only [opE,hl]; rfl)) (.int _ _) (fun r hr => by cases hr)
  · rename_i n off len es hs
    cases hE; rw [hs] at h
    generalize hl : x.ev lenv = l at h
    cases h
    exact OpRes.val H E rfl (by simp only [opE,hl]) (.int _ _) (fun r hr => by cases hr)
theorem sim_lenM {x : X} (H : HS lo w φ vh lh) (E : ES w φ lh env lenv) (hE : opV cf lo (.lenM x) env vh = some (v,vh')) : OpRes lcf lo w φ env lenv lh (.lenM x) d v vh' := by
  simp only [opV] at hE
  have h := E.x x
  split at hE <;> first | (cases hE; done) | skip
  · rename_i hs
    cases hE; rw [hs] at h
    generalize hl : x.ev lenv = l at h
    cases h; exact OpRes.val H E rfl (by simp only [opE,hl]) (.int _ _) (fun r hr => by cases hr)
  · rename_i n hs
    split at hE <;> first | (cases hE; done) | skip
    rename_i es hn
    cases hE; rw [hs] at h
    generalize hl : x.ev lenv = l at h
    cases h with
    | map hp =>
      obtain ⟨les,h1,h2,_⟩ := H.blk n _ _ hn hp
      exact OpRes.val H E rfl (l := .int .i64 es.length) (by simp only [opE,hl,h1,h2]) (.int _ _) (fun r hr => by cases hr)
theorem sim_lenC {n : Nat} (H : HS lo w φ vh lh) (E : ES w φ lh env lenv) (hE : opV cf lo (.lenC n) env vh = some (v,vh')) : OpRes lcf lo w φ env lenv lh (.lenC n) d v vh' := by
  simp only [opV] at hE
  cases hE
  exact OpRes.val H E rfl rfl (.int _ _) (fun r hr => by cases hr)

theorem mmE_sc {b : Bool} : ∀ (xs : List X) (a r : LV),mmE b a (xs.map fun x => (vr env x).sc) = some r → ∀ x ∈ xs,(vr env x).sc ≠ .undef
  | [],_,_,_,x,hx => by cases hx
  | y :: ys,a,r,h,x,hx => by
    simp only [List.map_cons] at h
    unfold mmE at h
    split at h
    · rename_i e; cases e
    · rename_i k a' k' b' r' e
      simp only [List.cons.injEq] at e
      obtain ⟨e1,rfl⟩ := e
      rcases List.mem_cons.1 hx with rfl | hx
      · rw [e1]; exact fun h => by cases h
      · exact mmE_sc ys _ r h x hx
    · cases h
theorem mm_sc (E : ES w φ lh env lenv) {b : Bool} {xs : List X} {a : LV} {l : List LV} {r : LV} (hx : xs.map (fun x => (vr env x).sc) = a :: l) (h : mmE b a l = some r) (ha : xs.length ≤ 1 ∨ a ≠ .undef) : xs.map (X.ev lenv) = a :: l ∨ a = .undef := by
  cases xs with
  | nil => simp at hx
  | cons x xs =>
    simp only [List.map_cons,List.cons.injEq] at hx
    obtain ⟨h1,rfl⟩ := hx
    by_cases hu : a = .undef
    · exact .inr hu
    · refine .inl ?_
      simp only [List.map_cons,List.cons.injEq]
      refine ⟨by rw [← h1]; exact (E.x x).sc (by rw [h1]; exact hu),?_⟩
      refine List.map_congr_left fun y hy => ?_
      exact (E.x y).sc (mmE_sc xs a r h y hy)
theorem sim_mm {b : Bool} {xs : List X} {op : LOp} (hop : op = if b then .max2 xs else .min2 xs) (H : HS lo w φ vh lh) (E : ES w φ lh env lenv) (hE : opV cf lo op env vh = some (v,vh')) : OpRes lcf lo w φ env lenv lh op d v vh' := by
  have h1 : opV cf lo op env vh = match xs.map (fun x => (vr env x).sc) with
    | v :: r => match mmE b v r with
      | some v => some (ofLV v,vh)
      | none => none
    | [] => none := by subst hop; cases b <;> rfl
  have h2 : opE lcf 0 op lenv lh = match xs.map (X.ev lenv) with
    | v :: r => match mmE b v r with
      | some v => some (v,lh)
      | none => none
    | [] => none := by subst hop; cases b <;> rfl
  rw [h1] at hE
  split at hE
  case h_2 => cases hE
  rename_i a l hx
  split at hE
  case h_2 => cases hE
  rename_i r hr
  cases hE
  have hl : loses op = none := by subst hop; cases b <;> rfl
  by_cases ha : a = .undef
  · subst ha
    have hl0 : l = [] := by
      cases l with
      | nil => rfl
      | cons y ys => simp [mmE] at hr
    subst hl0
    simp only [mmE,Option.some.injEq] at hr
    subst hr
    -- a lone operand that is no number
    obtain ⟨x,rfl⟩ : ∃ x,xs = [x] := by
      cases xs with
      | nil => simp at hx
      | cons x xs => cases xs with
        | nil => exact ⟨x,rfl⟩
        | cons => simp at hx
    exact OpRes.val H E hl (l := x.ev lenv) (by rw [h2]; rfl) (.undef _) (fun r hr => by cases hr)
  · rcases mm_sc E hx hr (.inr ha) with h3 | h3
    · exact OpRes.val H E hl (l := r) (by rw [h2,h3]; simp only [hr]) (ofLV_rv _ _ _ r) (ofLV_ne r)
    · exact absurd h3 ha
theorem sim_mkfunc {f : FuncId} {caps : List X} (H : HS lo w φ vh lh) (E : ES w φ lh env lenv) (hE : opV cf lo (.mkfunc f caps) env vh = some (v,vh')) : OpRes lcf lo w φ env lenv lh (.mkfunc f caps) d v vh' := by
  simp only [opV,Option.some.injEq,Prod.mk.injEq] at hE
  obtain ⟨rfl,rfl⟩ := hE
  have h := E.args caps
  exact OpRes.val H E rfl rfl (.func f _ _ h.1 h.2) (fun r hr => by cases hr)
end
end Vg
/- Operations,the rest: rows,append,copy,make,maps,calls. -/
namespace Vg
open Go Lg
set_option linter.unusedSimpArgs false
set_option linter.unusedVariables false
set_option maxHeartbeats 1000000
section
variable {cf : VCall} {lcf : CallF} {lo : Nat} {w : Own} {φ : List Nat} {env : VEnv} {lenv : Env} {vh vh' : VHeap} {lh : Heap} {d : Nat} {v : VV}

theorem RowsAt.nil {es : Nat} : RowsAt w φ lh es [] [] := ⟨by simp,fun r h => by simp at h,fun i r j v l h => by simp at h⟩
theorem RowsAt.uncons {es : Nat} {row : List VV} {rows : List (List VV)} {cells : List LV} (h : RowsAt w φ lh es (row :: rows) cells) : RVs w φ lh row (cells.take es) ∧ RowsAt w φ lh es rows (cells.drop es) := by
  have hl := h.len
  rw [List.length_cons,Nat.add_mul,Nat.one_mul] at hl
  have h0 := h.row row (by simp)
  refine ⟨⟨by rw [h0.1]; simp; omega,fun i v l hv hl' => ?_⟩,⟨by simp; omega,fun r hr => h.row r (by simp [hr]),fun i r j v l hr hv hl' => ?_⟩⟩
  · rw [List.getElem?_take] at hl'
    split at hl'
    · exact h.get 0 row i v l rfl hv (by simpa using hl')
    · cases hl'
  · rw [List.getElem?_drop] at hl'
    exact h.get (i + 1) r j v l (by simpa using hr) hv (by rw [Nat.add_mul,Nat.one_mul,show i * es + es + j = es + (i * es + j) by omega]; exact hl')
theorem RowsAt.flat {es : Nat} : ∀ {rows : List (List VV)} {cells : List LV},RowsAt w φ lh es rows cells → RVs w φ lh rows.flatten cells
  | [],cells,h => by
    have := h.len
    simp at this
    subst this
    exact .nil
  | row :: rows,cells,h => by
    obtain ⟨h1,h2⟩ := h.uncons
    have := h1.append (RowsAt.flat h2)
    rw [List.take_append_drop] at this
    exact this
theorem RowsAt.take {es : Nat} {rows : List (List VV)} {cells : List LV} (h : RowsAt w φ lh es rows cells) (m : Nat) : RowsAt w φ lh es (rows.take m) (cells.take (m * es)) := by
  refine ⟨?_,fun r hr => h.row r (List.mem_of_mem_take hr),fun i r j v l hr hv hl => ?_⟩
  · rw [List.length_take,List.length_take,h.len]
    rcases Nat.le_total m rows.length with h1 | h1
    · rw [Nat.min_eq_left h1,Nat.min_eq_left (Nat.mul_le_mul_right _ h1)]
    · rw [Nat.min_eq_right h1,Nat.min_eq_right (Nat.mul_le_mul_right _ h1)]
  · rw [List.getElem?_take] at hr hl
    split at hr
    · split at hl
      · exact h.get i r j v l hr hv hl
      · cases hl
    · cases hr
theorem RowsAt.flat_free {es : Nat} {rows : List (List VV)} {cells : List LV} (h : RowsAt w φ lh es rows cells) (k : Nat) : lowL k rows.flatten = true := lowL_of fun v hv => by
  obtain ⟨r,hr,hv⟩ := List.mem_flatten.1 hv
  exact low_mono (Nat.zero_le k) v (lowL_mem (h.row r hr).2 v hv)

theorem list_at {m : LMode} {r : List (List VV)} {n off len es : Nat} {full : Bool} (h : RV w φ lh (.list m r) (.slice n off len es full)) (hr : r ≠ []) : len = r.length ∧ w n = none ∧ (m = .f → full = true) ∧ ∃ rw lcs,lh[n]? = some (.cells rw lcs) ∧ off + len * es ≤ lcs.length ∧ RowsAt w φ lh es r ((lcs.drop off).take (len * es)) := by
  cases h with
  | list0 => exact absurd rfl hr
  | @list _ _ _ _ _ _ rw lcs hw hb hl hm hrr hh =>
    refine ⟨rfl,hw,hm,rw,lcs,hb,hl,⟨by simp; omega,hrr,fun i row j v l h1 h2 h3 => ?_⟩⟩
    rw [List.getElem?_take] at h3
    split at h3
    · rw [List.getElem?_drop] at h3
      exact hh i row j v l h1 h2 (by rw [Nat.add_assoc]; exact h3)
    · cases h3
theorem rows_es {es es' : Nat} {r : List (List VV)} {cells : List LV} (h : RowsAt w φ lh es' r cells) (hr : r ≠ []) (ha : r.all (fun x => x.length == es) = true) : es' = es := by
  cases r with
  | nil => exact absurd rfl hr
  | cons a r =>
    have h1 := (h.row a (by simp)).1
    simp at ha
    omega

theorem rows_src {es : Nat} {v : VV} {l : LV} {rows : List (List VV)} (H : HS lo w φ vh lh) (h : RV w φ lh v l) (hr : rowsOf es vh v = some rows) : ∃ cells,srcOf es lh l = some (cells,rows.length) ∧ RowsAt w φ lh es rows cells := by
  unfold rowsOf at hr
  split at hr
  · rename_i m r
    split at hr
    case isFalse => cases hr
    rename_i ha
    cases hr
    by_cases h0 : rows = []
    · subst h0
      refine ⟨[],?_,.nil⟩
      generalize hr0 : ([] : List (List VV)) = r0 at h
      cases h with
      | nil => rfl
      | list0 => simp [srcOf]
      | list => rename_i rows' _ _ _ _ _ _ _ _ _ _ _; subst hr0; simp [srcOf]
    · have hl : ∃ n off len es' full,l = .slice n off len es' full := by
        cases h with
        | nil => exact absurd rfl h0
        | list0 => exact absurd rfl h0
        | list => exact ⟨_,_,_,_,_,rfl⟩
      obtain ⟨n,off,len,es',full,rfl⟩ := hl
      obtain ⟨h1,h2,h3,rw',lcs,h4,h5,h6⟩ := list_at h h0
      have := rows_es h6 h0 ha
      subst this
      refine ⟨_,?_,h6⟩
      have hl0 : len ≠ 0 := by rw [h1]; exact fun e => h0 (List.length_eq_zero_iff.1 e)
      simp only [srcOf,if_neg hl0,if_true,cellsOf,h4,if_pos h5,← h1]
  · rename_i n off len es'
    split at hr
    case isFalse => cases hr
    rename_i hes
    subst hes
    split at hr
    case h_2 => cases hr
    rename_i rw' cs hn
    split at hr
    case isFalse => cases hr
    rename_i hc
    cases hr
    cases h with
    | @hs _ _ _ _ pb full hp =>
      obtain ⟨lrw,lcs,h1,h2,h3,h4⟩ := H.cells hn hp
      have hlen := h2.1
      have hd := nrmL_rv _ _ (h2.drop off)
      have hat := chunk_at (es := es') (n := len) hd (by
        rw [nrmL_low]
        exact lowL_of fun v hv => lowL_mem hc.2 v (List.mem_of_mem_drop hv)) (by rw [nrmL_length]; simp; omega)
      refine ⟨_,?_,hat⟩
      rw [chunk_length]
      by_cases hl0 : len = 0
      · subst hl0; simp [srcOf]
      · simp only [srcOf,if_neg hl0,if_true,cellsOf,h1]
        rw [if_pos (by omega)]
  · rename_i s
    split at hr
    case isFalse => cases hr
    rename_i hes
    subst hes
    cases hr
    cases h
    refine ⟨s.map (fun b => .int .u8 b.toNat),by simp [srcOf],⟨by simp,fun row hr => by obtain ⟨b,_,rfl⟩ := List.mem_map.1 hr; exact ⟨rfl,rfl⟩,fun i row j v l hrow hv hl => ?_⟩⟩
    rw [List.getElem?_map] at hrow
    obtain ⟨b,hb,rfl⟩ := Option.map_eq_some_iff.1 hrow
    cases j with
    | succ j => simp at hv
    | zero =>
      simp at hv; subst hv
      rw [Nat.mul_one,Nat.add_zero,List.getElem?_map,hb] at hl
      simp at hl; subst hl
      exact .int _ _
  · cases hr

theorem bytesOf_ne : ∀ {ls : List LV} {bs : List UInt8},bytesOf ls = some bs → ∀ x ∈ ls,x ≠ .undef
  | [],_,_,x,hx => by cases hx
  | l :: ls,bs,h,x,hx => by
    unfold bytesOf at h
    split at h
    · rename_i e; cases e
    · rename_i n r e
      cases e
      split at h
      · rename_i bs' hbs
        rcases List.mem_cons.1 hx with rfl | hx
        · exact fun h => by cases h
        · exact bytesOf_ne hbs x hx
      · cases h
    · cases h
theorem RVs.scs : ∀ {vs : List VV} {ls : List LV},RVs w φ lh vs ls → (∀ x ∈ vs.map VV.sc,x ≠ .undef) → ls = vs.map VV.sc
  | [],[],_,_ => rfl
  | [],_ :: _,h,_ => by have := h.1; simp at this
  | _ :: _,[],h,_ => by have := h.1; simp at this
  | v :: vs,l :: ls,h,hx => by
    simp only [List.map_cons]
    rw [h.uncons.1.sc (hx _ (by simp)),← RVs.scs h.uncons.2 (fun x hx' => hx x (by simp only [List.map_cons,List.mem_cons]; exact .inr hx'))]

theorem b2s_slice {n off len es k : Nat} {full : Bool} {cells : List LV} {bs : List UInt8} (h1 : srcOf 1 lh (.slice n off len es full) = some (cells,k)) (hbs : bytesOf cells = some bs) :
    (if len = 0 then some (LV.str [],lh) else if es = 1 then match cellsOf lh (.slice n off len es full) with
        | some cs => match bytesOf cs with
          | some l => some (LV.str l,lh)
          | none => none
        | none => none
      else none) = some (LV.str bs,lh) := by
  simp only [srcOf] at h1
  split at h1
  · rename_i h0
    simp only [Option.some.injEq,Prod.mk.injEq] at h1
    obtain ⟨rfl,_⟩ := h1
    simp only [bytesOf,Option.some.injEq] at hbs
    subst hbs
    rw [if_pos h0]
  · rename_i h0
    rw [if_neg h0]
    split at h1
    · rename_i hes
      rw [if_pos hes]
      split at h1
      · rename_i cs' hcs
        simp only [Option.some.injEq,Prod.mk.injEq] at h1
        obtain ⟨rfl,_⟩ := h1
        rw [hcs]; simp only [hbs]
      · cases h1
    · cases h1

theorem sim_b2s {x : X} (H : HS lo w φ vh lh) (E : ES w φ lh env lenv) (hE : opV cf lo (.b2s x) env vh = some (v,vh')) : OpRes lcf lo w φ env lenv lh (.b2s x) d v vh' := by
  simp only [opV] at hE
  split at hE
  case isFalse => cases hE
  rename_i hsl
  split at hE
  case h_2 => cases hE
  rename_i r hr
  split at hE
  case h_2 => cases hE
  rename_i bs hbs
  cases hE
  have h := E.x x
  obtain ⟨cells,h1,h2⟩ := rows_src H h hr
  have h3 := h2.flat.scs (bytesOf_ne hbs)
  rw [← h3] at hbs
  refine OpRes.val H E rfl (l := .str bs) ?_ (.str _) (fun r hr => by cases hr)
  simp only [opE]
  generalize hl : x.ev lenv = l at h h1
  generalize vr env x = vx at h hsl
  cases h <;> first | (simp [isSl] at hsl; done) | skip
  · simp [srcOf] at h1
    obtain ⟨rfl,_⟩ := h1
    simp [bytesOf] at hbs
    subst hbs; rfl
  · simp [srcOf] at h1
    obtain ⟨rfl,_⟩ := h1
    simp [bytesOf] at hbs
    subst hbs; simp
  · exact b2s_slice h1 hbs
  · exact b2s_slice h1 hbs

/-- What a function of the library looks at is no hidden value. -/
def okA : LV → Prop
  | .undef => False
  | .agg xs => ∀ x ∈ xs,x ≠ .undef
  | _ => True
theorem arg_rv {v : VV} {l : LV} (h : RV w φ lh v l) (hok : okA (argV v)) : argE lh l = argV v := by
  generalize hv : v = v0 at h
  cases h with
  | nil m => subst hv; rfl
  | list0 m n off es full hm => subst hv; simp [argE,argV]
  | @list m rows b off es full rw lcs hw hb hl hm hr hh =>
    subst hv
    by_cases h0 : rows = []
    · subst h0; simp [argE,argV]
    · obtain ⟨_,_,_,rw',lcs',hb',hl',hat⟩ := list_at (.list (m := m) hw hb hl hm hr hh) h0
      rw [hb] at hb'
      cases hb'
      simp only [argV] at hok
      split at hok
      case isFalse => exact hok.elim
      rename_i hall
      simp only [okA] at hok
      have h1 : ¬ rows.length = 0 := fun h => h0 (List.length_eq_zero_iff.1 h)
      have h2 : es = 1 := by
        obtain ⟨r,hr'⟩ := List.exists_mem_of_ne_nil rows h0
        have h3 := List.all_eq_true.1 hall r hr'
        rw [(hr r hr').1] at h3
        simpa using h3
      subst h2
      simp only [argE,h1,if_false,if_true,cellsOf,hb,if_pos hl,argV,hall]
      rw [hat.flat.scs hok]
  | _ => subst hv; first | rfl | exact hok.elim
theorem strsOf_ne : ∀ {ls : List LV} {bs : List (List UInt8)},strsOf ls = some bs → ∀ x ∈ ls,x ≠ .undef
  | [],_,_,x,hx => by cases hx
  | l :: ls,bs,h,x,hx => by
    unfold strsOf at h
    split at h
    · rename_i e; cases e
    · rename_i s r e
      cases e
      split at h
      · rename_i bs' hbs
        rcases List.mem_cons.1 hx with rfl | hx
        · exact fun h => by cases h
        · exact strsOf_ne hbs x hx
      · cases h
    · cases h
theorem ext_ok {k : ExtK} {args : List LV} {v : LV} (hE : extE k args = some v) : ∀ a ∈ args,okA a := by
  unfold extE at hE
  split at hE
  · intro a ha; simp at ha; rcases ha with rfl | rfl <;> trivial
  · intro a ha; simp at ha; rcases ha with rfl | rfl <;> trivial
  · split at hE
    · rename_i hs
      intro a ha; simp at ha; rcases ha with rfl | rfl
      · exact strsOf_ne hs
      · trivial
    · cases hE
  · intro a ha; simp at ha; rcases ha with rfl | rfl <;> trivial
  · cases hE
theorem ext_args (E : ES w φ lh env lenv) : ∀ (xs : List X),(∀ a ∈ xs.map (fun x => argV (vr env x)),okA a) → xs.map (fun x => argE lh (x.ev lenv)) = xs.map fun x => argV (vr env x)
  | [],_ => rfl
  | x :: xs,h => by
    simp only [List.map_cons]
    rw [arg_rv (E.x x) (h _ (by simp)),ext_args E xs fun a ha => h a (by simp only [List.map_cons,List.mem_cons]; exact .inr ha)]
theorem sim_ext {k : ExtK} {xs : List X} (H : HS lo w φ vh lh) (E : ES w φ lh env lenv) (hE : opV cf lo (.ext k xs) env vh = some (v,vh')) : OpRes lcf lo w φ env lenv lh (.ext k xs) d v vh' := by
  simp only [opV] at hE
  split at hE
  case h_2 => cases hE
  rename_i r hr
  cases hE
  refine OpRes.val H E rfl (l := r) ?_ (ofLV_rv _ _ _ r) (ofLV_ne r)
  simp only [opE]
  rw [ext_args E xs (ext_ok hr),hr]

theorem RowsAt.sub {es : Nat} {r : List (List VV)} {cells : List LV} (h : RowsAt w φ lh es r cells) {a e : Nat} (hae : a ≤ e) (he : e ≤ r.length) : RowsAt w φ lh es ((r.take e).drop a) ((cells.drop (a * es)).take ((e - a) * es)) := by
  have h1 : a * es ≤ e * es := Nat.mul_le_mul_right _ hae
  have h2 : e * es ≤ r.length * es := Nat.mul_le_mul_right _ he
  refine ⟨?_,fun row hr => h.row row (List.mem_of_mem_take (List.mem_of_mem_drop hr)),fun i row j v l hr hv hl => ?_⟩
  · have := h.len
    simp only [List.length_take,List.length_drop]
    rw [Nat.min_eq_left he,Nat.sub_mul]
    omega
  · rw [List.getElem?_drop,List.getElem?_take] at hr
    split at hr
    · rw [List.getElem?_take] at hl
      split at hl
      · rw [List.getElem?_drop] at hl
        exact h.get _ row j v l hr hv (by rw [Nat.add_mul,Nat.add_assoc]; exact hl)
      · cases hl
    · cases hr

theorem sim_slcA {len es : Nat} {x : X} {lo' hi : Option X} (H : HS lo w φ vh lh) (E : ES w φ lh env lenv) (hE : opV cf lo (.slcA len es x lo' hi) env vh = some (v,vh')) : OpRes lcf lo w φ env lenv lh (.slcA len es x lo' hi) d v vh' := by
  simp only [opV] at hE
  have h := E.x x
  split at hE
  case h_2 => cases hE
  rename_i n off hs
  rw [hs] at h
  generalize hl : x.ev lenv = l at h
  cases h with
  | @ptr _ _ pb hp =>
  split at hE
  case h_2 => cases hE
  rename_i rw cs hn
  obtain ⟨lrw,lcs,h1,h2,_,_⟩ := H.cells hn hp
  split at hE
  case isFalse => cases hE
  rename_i hle
  split at hE
  case h_2 => cases hE
  rename_i a e hb
  have hb' := bnds_rv E hb
  simp only [Option.some.injEq,Prod.mk.injEq] at hE
  obtain ⟨rfl,rfl⟩ := hE
  exact OpRes.val H E rfl (by simp only [opE,hl,hb',h1]; rw [if_pos (by rw [← h2.1]; exact hle)]) (.hs hp) (fun r hr => by cases hr)
theorem sim_slc {es : Nat} {x : X} {lo' hi mx : Option X} (H : HS lo w φ vh lh) (E : ES w φ lh env lenv) (hE : opV cf lo (.slc es x lo' hi mx) env vh = some (v,vh')) : OpRes lcf lo w φ env lenv lh (.slc es x lo' hi mx) d v vh' := by
  simp only [opV] at hE
  have h := E.x x
  split at hE
  · rename_i s hs
    rw [hs] at h
    generalize hl : x.ev lenv = l at h
    cases h
    split at hE
    case isFalse => cases hE
    rename_i hc
    split at hE
    case h_2 => cases hE
    rename_i a e hb
    cases hE
    have hb' := bnds_rv E hb
    exact OpRes.val H E rfl (by simp only [opE,hl,hb']; rw [if_pos hc]) (.str _) (fun r hr => by cases hr)
  · rename_i m r hs
    rw [hs] at h
    generalize hl : x.ev lenv = l at h
    split at hE
    case isFalse => cases hE
    rename_i hc
    obtain ⟨hes,hall⟩ := hc
    split at hE
    case h_2 => cases hE
    rename_i a e hb
    have hb' := bnds_rv E hb
    obtain ⟨hae,her⟩ := vbnds_le hb
    -- the limit,if one
    have hmx : ∃ m',v = .list m' ((r.take e).drop a) ∧ vh' = vh ∧ m' ≠ .o ∧ ((mx = none ∧ (m' = .f → m = .f ∧ e = r.length)) ∨ ∃ c k,mx = some c ∧ asNat (c.ev lenv) = some k ∧ e ≤ k ∧ k ≤ r.length ∧ (m' = .f → e = k)) := by
      cases mx with
      | none =>
        simp only [Option.some.injEq,Prod.mk.injEq] at hE
        obtain ⟨rfl,rfl⟩ := hE
        refine ⟨_,rfl,rfl,by split <;> simp,.inl ⟨rfl,fun h => ?_⟩⟩
        split at h
        · rename_i hc; exact hc
        · cases h
      | some c =>
        simp only at hE
        split at hE
        case h_2 => cases hE
        rename_i k hk
        split at hE
        case isFalse => cases hE
        rename_i hc
        simp only [Option.some.injEq,Prod.mk.injEq] at hE
        obtain ⟨rfl,rfl⟩ := hE
        refine ⟨_,rfl,rfl,by split <;> simp,.inr ⟨c,k,rfl,nat_rv (E.x c) hk,hc.1,hc.2,fun h => ?_⟩⟩
        split at h
        · rename_i hq; exact hq
        · cases h
    obtain ⟨m',rfl,rfl,hmo,hm⟩ := hmx
    have hno : ∀ r',VV.list m' ((r.take e).drop a) ≠ .list .o r' := fun r' h => by injection h with h1; exact hmo h1
    by_cases h0 : r = []
    · subst h0
      have he0 : e = 0 := by simpa using her
      subst he0
      have ha0 : a = 0 := by omega
      subst ha0
      simp only [List.take_nil,List.drop_nil] at hno ⊢
      have hcase : l = .nilslice ∨ ∃ n off es' full,l = .slice n off 0 es' full ∧ (m = .f → full = true) := by
        generalize hr0 : ([] : List (List VV)) = r0 at h
        cases h with
        | nil => exact .inl rfl
        | list0 _ n off es' full hmf => exact .inr ⟨n,off,es',full,rfl,hmf⟩
        | list hw hb hl' hmf => subst hr0; exact .inr ⟨_,_,_,_,rfl,hmf⟩
      rcases hcase with rfl | ⟨n,off,es',full,rfl,hmf⟩
      · refine OpRes.val H E rfl (l := .nilslice) ?_ (.nil _) hno
        simp only [opE,hl]
        rw [if_neg hes]
        simp only [List.length_nil] at hb'
        rw [hb']
        rcases hm with ⟨rfl,_⟩ | ⟨c,k,rfl,hk,hk1,hk2,_⟩
        · rfl
        · simp only [List.length_nil] at hk2
          have : k = 0 := by omega
          subst this
          simp only [hk,if_true]
      · have key : ∃ off' es'' f',opE lcf 0 (.slc es x lo' hi mx) lenv lh = some (.slice n off' 0 es'' f',lh) ∧ (m' = .f → f' = true) := by
          simp only [opE,hl]
          simp only [List.length_nil] at hb'
          by_cases he : es' = es
          · rw [if_pos ⟨he,hes⟩,hb']
            rcases hm with ⟨rfl,hmm⟩ | ⟨c,k,rfl,hk,hk1,hk2,hmm⟩
            · exact ⟨_,_,_,rfl,fun hf => by rw [hmf (hmm hf).1]; rfl⟩
            · simp only [List.length_nil] at hk2
              have : k = 0 := by omega
              subst this
              simp only [hk]
              rw [if_pos ⟨Nat.le_refl _,Nat.le_refl _⟩]
              exact ⟨_,_,_,rfl,fun _ => rfl⟩
          · rw [if_neg (fun hh => he hh.1),if_pos ⟨hes,trivial⟩,hb']
            rcases hm with ⟨rfl,hmm⟩ | ⟨c,k,rfl,hk,hk1,hk2,hmm⟩
            · exact ⟨_,_,_,rfl,fun hf => hmf (hmm hf).1⟩
            · simp only [List.length_nil] at hk2
              have : k = 0 := by omega
              subst this
              simp only [hk,if_true]
              exact ⟨_,_,_,rfl,fun _ => rfl⟩
        obtain ⟨off',es'',f',h1,h2⟩ := key
        exact OpRes.val H E rfl h1 (.list0 _ _ _ _ _ h2) hno
    · have hl' : ∃ n off len es' full,l = .slice n off len es' full := by
        cases h with
        | nil => exact absurd rfl h0
        | list0 => exact absurd rfl h0
        | list => exact ⟨_,_,_,_,_,rfl⟩
      obtain ⟨n,off,len,es',full,rfl⟩ := hl'
      obtain ⟨h1,h2,h3,rw',lcs,h4,h5,h6⟩ := list_at h h0
      have := rows_es h6 h0 hall
      subst this
      have key : ∃ f',opE lcf 0 (.slc es' x lo' hi mx) lenv lh = some (.slice n (off + a * es') (e - a) es' f',lh) ∧ (m' = .f → f' = true) := by
        simp only [opE,hl]
        rw [if_pos ⟨trivial,hes⟩,h1,hb']
        rcases hm with ⟨rfl,hmm⟩ | ⟨c,k,rfl,hk,hk1,hk2,hmm⟩
        · exact ⟨_,rfl,fun hf => by rw [h3 (hmm hf).1,(hmm hf).2]; simp⟩
        · simp only [hk]
          rw [if_pos ⟨hk1,hk2⟩]
          exact ⟨_,rfl,fun hf => by rw [hmm hf]; simp⟩
      obtain ⟨f',h7,h8⟩ := key
      have hs := h6.sub hae her
      have h9 : a * es' ≤ e * es' := Nat.mul_le_mul_right _ hae
      have h10 : e * es' ≤ len * es' := Nat.mul_le_mul_right _ (by omega)
      have hlen : ((r.take e).drop a).length = e - a := by simp; omega
      refine OpRes.val H E rfl h7 ?_ hno
      have := hs.list (b := n) (off := off + a * es') (m := m') (full := f') h2 h4 (by omega) (by
        rw [hlen,Nat.sub_mul,List.drop_take,List.take_take,List.drop_drop]
        congr 1
        omega) h8
      rwa [hlen] at this
  · rename_i n off len es' hs
    rw [hs] at h
    generalize hl : x.ev lenv = l at h
    split at hE
    case isFalse => cases hE
    rename_i hc
    obtain ⟨he,hes,hmx⟩ := hc
    split at hE
    case h_2 => cases hE
    rename_i a e hb
    have hb' := bnds_rv E hb
    cases hE
    cases h with
    | @hs _ _ _ _ pb full hp =>
      have hmx' : mx = none := by simpa using hmx
      subst hmx'
      refine OpRes.val H E rfl (l := .slice pb (off + a * es) (e - a) es (full && e == len)) ?_ (.hs hp) (fun r hr => by cases hr)
      simp only [opE,hl]
      rw [if_pos ⟨he,hes⟩,hb']
  · cases hE
end
end Vg
/- Operations,the last ones: append,copy,make,maps,calls; all of them together. -/
namespace Vg
open Go Lg
set_option linter.unusedSimpArgs false
set_option linter.unusedVariables false
set_option maxHeartbeats 1000000
section
variable {cf : VCall} {lcf : CallF} {lo : Nat} {w : Own} {φ : List Nat} {env : VEnv} {lenv : Env} {vh vh' : VHeap} {lh : Heap} {d : Nat} {v : VV}

/-- The slot of an operand that is taken. -/
theorem ES.took (E : ES w φ lh env lenv) (hn : ∀ b,lh.length ≤ b → w b = none) (x : X) : ∃ o1 : Owner,o1 ≠ .ext ∧ (∀ b i,o1 ≠ .cell b i) ∧ (∀ m,¬ ofBlk m o1) ∧ Tok w lh o1 (vr env x) (x.ev lenv) ∧
    ∀ (w' : Own) (lh' : Heap) (φ' : List Nat),PExt φ φ' → Fr w lh w' lh' → (∀ i,o1 ≠ .env i → Same (· = .env i) w lh w' lh') → ES w' φ' lh' (match x with | .t n => env.set n (env.getD n .undef).sh | .c _ => env) lenv := by
  cases x with
  | c c =>
    refine ⟨.env env.length,(by simp),(fun b i h => by cases h),fun m h => h,Tok.no (ofLV_ne c),fun w' lh' φ' hp fr hs => ⟨E.len,fun i v l hv hl => ⟨(E.get i v l hv hl).1.mono hp fr,(E.get i v l hv hl).2.mono ⟨φ,(E.get i v l hv hl).1⟩ fr (hs i fun e => by have := lt_of_getElem? (l := env) hv; injection e with e; omega)⟩⟩⟩
  | t k =>
    refine ⟨.env k,(by simp),(fun b i h => by cases h),fun m h => h,E.tokx k,fun w' lh' φ' hp fr hs => ⟨by simp [E.len],fun i v l hv hl => ?_⟩⟩
    rw [List.getElem?_set] at hv
    split at hv
    · rename_i e
      subst e
      split at hv
      · cases hv
        refine ⟨?_,Tok.no (sh_ne _)⟩
        obtain ⟨v0,hv0⟩ := getElem?_lists E.len.symm hl
        rw [List.getD_eq_getElem?_getD,hv0]
        exact ((E.get k v0 l hv0 hl).1.mono hp fr).sh
      · cases hv
    · rename_i e
      exact ⟨(E.get i v l hv hl).1.mono hp fr,(E.get i v l hv hl).2.mono ⟨φ,(E.get i v l hv hl).1⟩ fr (hs i fun x => e (by injection x))⟩

theorem strip_append (ap : Bool) (es bytes : Nat) (x y : X) : strip (.append ap es bytes x y) env = match x with | .t n => env.set n (env.getD n .undef).sh | .c _ => env := by
  cases x <;> rfl

/-- The longer list. -/
theorem grown {es : Nat} {rows new : List (List VV)} {c1 c2 : List LV} {X : Heap} {len k : Nat} (h1 : RowsAt w φ lh es rows c1) (h2 : RowsAt w φ lh es new c2) (hn : ∀ b,lh.length ≤ b → w b = none) (hX : X.length = lh.length) (hk : ∀ b,b < lh.length → w b = none ∨ w b = some .ext → X[b]? = lh[b]?) (hl : len + k = rows.length + new.length) (hne : new ≠ []) :
    let w' := own1 w (lh.length + 1) (.env d)
    let lh' := X ++ grownE true X.length (len + k) es (c1 ++ c2)
    Fr w lh w' lh' ∧ (∀ b,lh'.length ≤ b → w' b = none) ∧ RV w' φ lh' (.list .o (rows ++ new)) (.slice X.length 0 (len + k) es false) ∧ Tok w' lh' (.env d) (.list .o (rows ++ new)) (.slice X.length 0 (len + k) es false) := by
  intro w' lh'
  have hlen : lh'.length = lh.length + 2 := by simp [lh',grownE,hX]
  have fr : Fr w lh w' lh' := ⟨by omega,fun b hb hw => ⟨by simp only [w',own1]; rw [if_neg (by omega)]; exact hw,by
    simp only [lh']; rw [List.getElem?_append_left (by omega)]; exact hk b hb (.inl hw)⟩,fun b hb hw => ⟨by simp only [w',own1]; rw [if_neg (by omega)]; exact hw,by
    simp only [lh']; rw [List.getElem?_append_left (by omega)]; exact hk b hb (.inr hw)⟩⟩
  have e0 : lh'[X.length]? = some (.cells false (c1 ++ c2)) := by
    simp [lh',grownE]
  have e1 : lh'[X.length + 1]? = some (.tok X.length ((len + k) * es)) := by
    simp only [lh',grownE,if_true]
    rw [List.getElem?_append_right (by omega)]; simp
  have hw0 : w' X.length = none := by
    simp only [w',own1]; rw [if_neg (by omega)]; exact hn _ (by omega)
  have hat := (h1.append h2).mono (PExt.refl φ) fr
  have hrl : (rows ++ new).length = len + k := by simp [hl]
  have hcl := hat.len
  have hv := hat.list (b := X.length) (off := 0) (m := .o) (full := false) (rw := false) hw0 e0 (Nat.zero_le _) (by rw [List.drop_zero,List.take_of_length_le (by omega)]) (fun h => by cases h)
  rw [hrl] at hv
  refine ⟨fr,fun b hb => ?_,hv,fun r hr => .inr (.inr ⟨X.length,0,len + k,es,_,rfl,e0,by rw [e1,Nat.zero_add],by simp only [w',own1]; rw [if_pos (by omega)],?_⟩)⟩
  · simp only [w',own1]; rw [if_neg (by omega)]; exact hn b (by omega)
  · injection hr with _ hr
    subst hr
    intro h
    exact hne (List.append_eq_nil_iff.1 h).2

theorem sim_append {ap : Bool} {es bytes : Nat} {x y : X} (H : HS lo w φ vh lh) (E : ES w φ lh env lenv) (hE : opV cf lo (.append ap es bytes x y) env vh = some (v,vh')) : OpRes lcf lo w φ env lenv lh (.append ap es bytes x y) d v vh' := by
  simp only [opV,appendV] at hE
  split at hE
  case h_1 => cases hE
  rename_i new hnew
  obtain ⟨c2,hsrc,h2⟩ := rows_src H (E.x y) hnew
  obtain ⟨o1,hoe,ho1,ho2,ht,hstr⟩ := E.took H.new x
  have hxr := E.x x
  cases ap with
  | true =>
    simp only at hE
    split at hE
    case h_2 => cases hE
    rename_i m rows hx
    split at hE
    case isFalse => cases hE
    rename_i hc
    obtain ⟨hm,hall,hbd⟩ := hc
    simp only [Option.some.injEq,Prod.mk.injEq] at hE
    obtain ⟨rfl,rfl⟩ := hE
    rw [hx] at hxr ht
    generalize hl : x.ev lenv = l at hxr ht
    by_cases hn0 : new = []
    · -- nothing is appended
      subst hn0
      have hop : opE lcf 0 (.append true es bytes x y) lenv lh = some (l,lh) := by
        have hsrc' : srcOf es lh (y.ev lenv) = some (c2,0) := by simpa using hsrc
        simp only [opE,appendE,hsrc',hl]
        generalize hr0 : rows = r0 at hxr ht
        cases hxr with
        | nil => simp
        | list0 _ n off es' full hmf =>
          have hf : full = true := by
            rcases LMode.rec (motive := fun m => m ≠ .s → m = .f ∨ m = .o) (fun h => absurd rfl h) (fun _ => .inl rfl) (fun _ => .inr rfl) m hm with h | h
            · exact hmf h
            · subst h
              rcases ht [] rfl with h | ⟨_,_,_,_,h⟩ | ⟨_,_,_,_,_,h,_,_,_,h5⟩
              · cases h
              · injection h
              · exact absurd rfl h5
          simp [hf]
        | @list _ _ b off es' full rw' lcs hw hb hle hmf hrr hh =>
          by_cases h0 : rows.length = 0
          · have hrn := List.length_eq_zero_iff.1 h0
            have hf : full = true := by
              rcases LMode.rec (motive := fun m => m ≠ .s → m = .f ∨ m = .o) (fun h => absurd rfl h) (fun _ => .inl rfl) (fun _ => .inr rfl) m hm with h | h
              · exact hmf h
              · subst h
                rcases ht _ rfl with h | ⟨_,_,_,_,h⟩ | ⟨_,_,_,_,_,h,_,_,_,h5⟩
                · cases h
                · injection h
                · exact absurd (hr0.symm.trans hrn) h5
            subst hr0
            simp [h0,hf]
          · have hat : RowsAt w φ lh es' rows ((lcs.drop off).take (rows.length * es')) := by
              subst hr0
              exact (list_at (RV.list hw hb hle hmf hrr hh) (fun e => h0 (by rw [e]; rfl))).2.2.2.choose_spec.choose_spec.2.2 |> fun h => by
                obtain ⟨_,_,_,rw2,lcs2,q1,q2,q3⟩ := list_at (RV.list (m := m) hw hb hle hmf hrr hh) (fun e => h0 (by rw [e]; rfl))
                rw [hb] at q1; cases q1; exact q3
            have hee := rows_es hat (fun e => h0 (by rw [e]; rfl)) (by simpa using hall)
            subst hr0
            simp [h0,hee]
      obtain ⟨w',fr,hk,ht',hn'⟩ := ht.move (o2 := .env d) H.new hoe
      refine ⟨l,lh,w',φ,hop,fr,PExt.refl _,H.mono fr (fun m => Same.of_keep hk (ho2 m)) hn',?_,?_,?_⟩
      · rw [strip_append]; exact hstr w' lh φ (PExt.refl _) fr fun i hi => Same.of_keep hk fun e => hi e
      · rw [List.append_nil]
        refine (RV.mono ?_ (PExt.refl _) fr)
        cases hxr with
        | nil => exact .nil _
        | list0 => exact .list0 _ _ _ _ _ (fun h => by cases h)
        | list hw hb hle hmf hrr hh => exact .list hw hb hle (fun h => by cases h) hrr hh
      · rw [List.append_nil]
        intro r hr
        cases m with
        | s => exact absurd rfl hm
        | o => exact ht' r hr
        | f =>
          cases hxr with
          | nil => exact .inl rfl
          | list0 _ n off es' full hmf => rw [hmf rfl]; exact .inr (.inl ⟨_,_,_,_,rfl⟩)
          | list hw hb hle hmf hrr hh => rw [hmf rfl]; exact .inr (.inl ⟨_,_,_,_,rfl⟩)
    · have hb := hbd.resolve_left hn0
      have hk0 : new.length ≠ 0 := fun e => hn0 (List.length_eq_zero_iff.1 e)
      -- the last step,for any of the heaps
      have fin : ∀ (rows0 : List (List VV)) (c1 : List LV) (X : Heap) (len : Nat),rows = rows0 → RowsAt w φ lh es rows0 c1 → X.length = lh.length → (∀ b,b < lh.length → w b = none ∨ w b = some .ext → X[b]? = lh[b]?) → (∀ b o,b < lh.length → w b = some o → o ≠ o1 → X[b]? = lh[b]?) → len = rows0.length →
          opE lcf 0 (.append true es bytes x y) lenv lh = some (.slice lh.length 0 (len + new.length) es false,X ++ grownE true lh.length (len + new.length) es (c1 ++ c2)) → OpRes lcf lo w φ env lenv lh (.append true es bytes x y) d (.list .o (rows ++ new)) vh := by
        intro rows0 c1 X len hrows h1 hX hk hko hlen hop
        subst hrows
        obtain ⟨fr,hnew',hrv,htok⟩ := grown (d := d) h1 h2 H.new hX hk (len := len) (k := new.length) (by rw [hlen]) hn0
        rw [hX] at fr hnew' hrv htok
        have same : ∀ P : Owner → Prop,¬ P o1 → Same P w lh (own1 w (lh.length + 1) (.env d)) (X ++ grownE true lh.length (len + new.length) es (c1 ++ c2)) := fun P hp b o hb hw ho =>
          ⟨by simp only [own1]; rw [if_neg (by omega)]; exact hw,by rw [List.getElem?_append_left (by omega)]; exact hko b o hb hw (fun e => hp (e ▸ ho))⟩
        refine ⟨_,_,_,φ,hop,fr,PExt.refl _,H.mono fr (fun m => same _ (ho2 m)) hnew',?_,hrv,htok⟩
        rw [strip_append]
        exact hstr _ _ φ (PExt.refl _) fr fun i hi => same _ hi
      have hnil : rows = [] → (l = .nilslice ∨ ∃ n off es',l = .slice n off 0 es' true) → OpRes lcf lo w φ env lenv lh (.append true es bytes x y) d (.list .o (rows ++ new)) vh := by
        intro hr hll
        refine fin [] [] lh 0 hr .nil rfl (fun _ _ _ => rfl) (fun _ _ _ _ _ => rfl) rfl ?_
        rw [hr] at hb
        simp only [List.length_nil,Nat.zero_add] at hb
        rcases hll with rfl | ⟨n,off,es',rfl⟩
        · simp only [opE,appendE,hsrc,hl,if_neg hk0,if_pos hb,Nat.zero_add,List.nil_append]
        · simp only [opE,appendE,hsrc,hl,if_neg hk0,if_pos hb,Nat.zero_add,List.nil_append]
          rw [if_pos ⟨trivial,trivial⟩]
      have hfull : ∀ (n off es' : Nat) (full : Bool),l = .slice n off 0 es' full → rows = [] → (m = .f → full = true) → full = true := by
        intro n off es' full hll hr hmf
        cases m with
        | s => exact absurd rfl hm
        | f => exact hmf rfl
        | o =>
          subst hll
          rcases ht rows rfl with h | ⟨_,_,_,_,h⟩ | ⟨_,_,_,_,_,h,_,_,_,h5⟩
          · cases h
          · injection h
          · exact absurd hr h5
      by_cases hr0 : rows = []
      · refine hnil hr0 ?_
        have hcase : l = .nilslice ∨ ∃ n off es' full,l = .slice n off 0 es' full ∧ (m = .f → full = true) := by
          rw [hr0] at hxr
          generalize hr1 : ([] : List (List VV)) = r1 at hxr
          cases hxr with
          | nil => exact .inl rfl
          | list0 _ n off es' full hmf => exact .inr ⟨n,off,es',full,rfl,hmf⟩
          | list hw hb hl' hmf => subst hr1; exact .inr ⟨_,_,_,_,rfl,hmf⟩
        rcases hcase with h | ⟨n,off,es',full,h,hmf⟩
        · exact .inl h
        · exact .inr ⟨n,off,es',by rw [h,hfull n off es' full h hr0 hmf]⟩
      · have hl' : ∃ n off len es' full,l = .slice n off len es' full := by
          cases hxr with
          | nil => exact absurd rfl hr0
          | list0 => exact absurd rfl hr0
          | list => exact ⟨_,_,_,_,_,rfl⟩
        obtain ⟨n,off,len,es',full,rfl⟩ := hl'
        obtain ⟨h3,h4,h5,rw',lcs,h6,h7,h8⟩ := list_at hxr hr0
        have := rows_es h8 hr0 hall
        subst this
        have hlen0 : len ≠ 0 := by rw [h3]; exact fun e => hr0 (List.length_eq_zero_iff.1 e)
        rw [← h3] at hb
        have hop0 : ∀ r,(if full = true then some (LV.slice lh.length 0 (len + new.length) es' false,lh ++ grownE true lh.length (len + new.length) es' ((lcs.drop off).take (len * es') ++ c2))
            else match lh[n + 1]? with
              | some (.tok m u) => if m = n ∧ u = off + len * es' ∧ 0 ≤ n + 1 ∧ rw' = false then some (.slice lh.length 0 (len + new.length) es' false,lh.set (n + 1) .dead ++ grownE true lh.length (len + new.length) es' ((lcs.drop off).take (len * es') ++ c2)) else none
              | _ => none) = some r → opE lcf 0 (.append true es' bytes x y) lenv lh = some r := by
          intro r hr
          simp only [opE,appendE,hsrc,hl,h6,if_neg hk0,if_pos hb,if_pos h7,if_true,ne_eq,not_true_eq_false,if_false]
          rw [if_neg (fun h => hlen0 h.1)]
          exact hr
        cases full with
        | true =>
          exact fin rows _ lh len rfl h8 rfl (fun _ _ _ => rfl) (fun _ _ _ _ _ => rfl) h3 (hop0 _ (by rw [if_pos rfl]))
        | false =>
          have hmo : m = .o := by
            cases m with
            | s => exact absurd rfl hm
            | f => exact absurd (h5 rfl) (by simp)
            | o => rfl
          subst hmo
          rcases ht rows rfl with h | ⟨_,_,_,_,h⟩ | ⟨n',off',len',es2,lcs',h,q1,q2,q3,q4⟩
          · cases h
          · injection h with _ _ _ _ h; cases h
          · injection h with e1 e2 e3 e4
            subst e1; subst e2; subst e3; subst e4
            rw [h6] at q1; cases q1
            refine fin rows _ (lh.set (n + 1) .dead) len rfl h8 (by simp) (fun b hb' hw => ?_) (fun b o hb' hw ho => ?_) h3 (hop0 _ ?_)
            · rw [List.getElem?_set_ne]; rintro rfl; rw [q3] at hw; rcases hw with hw | hw <;> cases hw; exact hoe rfl
            · rw [List.getElem?_set_ne]; rintro rfl; rw [q3] at hw; cases hw; exact ho rfl
            · rw [if_neg (by simp),q2]
              simp only
              rw [if_pos ⟨trivial,trivial,Nat.zero_le _,trivial⟩]
  | false =>
    simp only at hE
    split at hE
    · rename_i rows hx
      split at hE
      case isFalse => cases hE
      rename_i hc
      obtain ⟨hall,hn0,hb⟩ := hc
      have hk0 : new.length ≠ 0 := fun e => hn0 (List.length_eq_zero_iff.1 e)
      simp only [Option.some.injEq,Prod.mk.injEq] at hE
      obtain ⟨rfl,rfl⟩ := hE
      rw [hx] at hxr
      generalize hl : x.ev lenv = l at hxr
      have key : ∃ c1,RowsAt w φ lh es rows c1 ∧ opE lcf 0 (.append false es bytes x y) lenv lh = some (.slice lh.length 0 (rows.length + new.length) es false,lh ++ [.cells true (c1 ++ c2)]) := by
        by_cases hr0 : rows = []
        · subst hr0
          simp only [List.length_nil,Nat.zero_add] at hb
          refine ⟨[],.nil,?_⟩
          have hcase : l = .nilslice ∨ ∃ n off es',l = .slice n off 0 es' true := by
            generalize hr1 : ([] : List (List VV)) = r1 at hxr
            cases hxr with
            | nil => exact .inl rfl
            | list0 _ n off es' full hmf => exact .inr ⟨n,off,es',by rw [hmf rfl]⟩
            | list hw hb hl' hmf => subst hr1; exact .inr ⟨_,_,_,by rw [hmf rfl]; rfl⟩
          rcases hcase with rfl | ⟨n,off,es',rfl⟩
          · simp only [opE,appendE,hsrc,hl,if_neg hk0,if_pos hb,List.length_nil,Nat.zero_add,List.nil_append,grownE]; rfl
          · simp only [opE,appendE,hsrc,hl,if_neg hk0,if_pos hb,List.length_nil,Nat.zero_add,List.nil_append,grownE]
            rw [if_pos ⟨trivial,trivial⟩]; rfl
        · have hl' : ∃ n off len es' full,l = .slice n off len es' full := by
            cases hxr with
            | nil => exact absurd rfl hr0
            | list0 => exact absurd rfl hr0
            | list => exact ⟨_,_,_,_,_,rfl⟩
          obtain ⟨n,off,len,es',full,rfl⟩ := hl'
          obtain ⟨h3,h4,h5,rw',lcs,h6,h7,h8⟩ := list_at hxr hr0
          have := rows_es h8 hr0 hall
          subst this
          have hlen0 : len ≠ 0 := by rw [h3]; exact fun e => hr0 (List.length_eq_zero_iff.1 e)
          rw [← h3] at hb
          refine ⟨_,h8,?_⟩
          have hf := h5 rfl
          simp only [opE,appendE,hsrc,hl,h6,if_neg hk0,if_pos hb,if_pos h7,if_true,ne_eq,not_true_eq_false,if_false]
          rw [if_neg (fun h => hlen0 h.1)]
          simp only [if_false,hf,if_true,grownE,h3]
          rfl
      obtain ⟨c1,h1,hop⟩ := key
      have hE2 : ES w φ lh (strip (.append false es bytes x y) env) lenv := by
        rw [strip_append]; exact hstr w lh φ (PExt.refl _) (Fr.refl _ _) fun i _ b o _ h _ => ⟨h,rfl⟩
      have hr := h1.flat.append h2.flat
      have fr := own1_fr (w := w) (lh := lh) (o := .blk vh.length) (x := [.cells true (c1 ++ c2)]) (Nat.le_refl _)
      have hr' := hr.mono (PExt.app φ [lh.length]) fr
      refine ⟨_,_,own1 w lh.length (.blk vh.length),φ ++ [lh.length],hop,fr,PExt.app _ _,H.push fr (fun m _ => own1_same (Nat.le_refl _)) ⟨true,_,List.getElem?_concat_length,ow_rvs hr',ow_low (by rw [lowL_append,h1.flat_free,h2.flat_free]; rfl),?_⟩ (fun b hb => ?_),hE2.mono (PExt.app _ _) fr fun i => own1_same (Nat.le_refl _),.hs (by rw [← H.len]; exact List.getElem?_concat_length),Tok.no fun r hr => by cases hr⟩
      · rw [if_pos ⟨rfl,H.lol⟩]
        exact ⟨rfl,by simp [own1],ow_tok hr'⟩
      · simp only [List.length_append,List.length_singleton] at hb
        unfold own1; rw [if_neg (by omega)]; exact H.new b (by omega)
    · rename_i n off len es' hx
      split at hE
      case isFalse => cases hE
      rename_i hc
      obtain ⟨hes,hlo,hn0,hb⟩ := hc
      subst hes
      have hk0 : new.length ≠ 0 := fun e => hn0 (List.length_eq_zero_iff.1 e)
      split at hE
      case h_2 => cases hE
      rename_i cs hcs
      split at hE
      case isFalse => cases hE
      rename_i hle
      simp only [Option.some.injEq,Prod.mk.injEq] at hE
      obtain ⟨rfl,rfl⟩ := hE
      rw [hx] at hxr
      generalize hl : x.ev lenv = l at hxr
      cases hxr with
      | @hs _ _ _ _ pb full hp =>
      obtain ⟨lrw,lcs,g1,g2,g3,g4⟩ := H.cells hcs hp
      rw [if_pos ⟨rfl,hlo⟩] at g4
      obtain ⟨rfl,g5,g6⟩ := g4
      have hlcs := g2.1
      have key : ∃ X : Heap,(X = lh ∨ X = lh.set pb .dead) ∧ opE lcf 0 (.append false es' bytes x y) lenv lh = some (.slice lh.length 0 (len + new.length) es' false,X ++ [.cells true ((lcs.drop off).take (len * es') ++ c2)]) := by
        simp only [opE,appendE,hsrc,hl,g1,if_neg hk0,ne_eq,not_true_eq_false,if_false,Bool.false_eq_true]
        by_cases hlf : len = 0 ∧ full = true
        · obtain ⟨rfl,rfl⟩ := hlf
          rw [if_pos ⟨rfl,rfl⟩,if_pos (by simpa using hb)]
          exact ⟨lh,.inl rfl,by simp [grownE]⟩
        · rw [if_neg hlf,if_pos hb,if_pos (by omega)]
          by_cases hf : full = true
          · rw [if_pos hf]
            exact ⟨lh,.inl rfl,by simp [grownE]⟩
          · rw [if_neg hf,if_pos ⟨trivial,Nat.zero_le _⟩]
            exact ⟨lh.set pb .dead,.inr rfl,by simp [grownE]⟩
      obtain ⟨X,hX,hop⟩ := key
      have hXl : X.length = lh.length := by rcases hX with rfl | rfl <;> simp
      have hXk : ∀ b,b ≠ pb → X[b]? = lh[b]? := by
        intro b hb
        rcases hX with rfl | rfl
        · rfl
        · rw [List.getElem?_set_ne (fun e => hb e.symm)]
      have frX : Fr w lh w X := ⟨by omega,fun b _ hw => ⟨hw,hXk b (by rintro rfl; rw [g5] at hw; cases hw)⟩,fun b _ hw => ⟨hw,hXk b (by rintro rfl; rw [g5] at hw; cases hw)⟩⟩
      have sameX : ∀ P : Owner → Prop,¬ P (.blk n) → Same P w lh w X := fun P hp2 b o _ hw ho => ⟨hw,hXk b (by rintro rfl; rw [g5] at hw; cases hw; exact hp2 ho)⟩
      have H1 : HS lo w φ (vh.set n .dead) X := H.upd frX (fun m hm => sameX _ (fun h => hm h.symm)) (fun _ _ => True.intro) (fun b hb => H.new b (by omega))
      have hE2 : ES w φ X (strip (.append false es' bytes x y) env) lenv := by
        rw [strip_append]; exact hstr w X φ (PExt.refl _) frX fun i _ => sameX _ (fun h => by cases h)
      have hr := (((g2.drop off).take (len * es')).append h2.flat).mono (PExt.refl φ) frX
      have fr := own1_fr (w := w) (lh := X) (o := .blk vh.length) (x := [.cells true ((lcs.drop off).take (len * es') ++ c2)]) (Nat.le_refl _)
      have hr' := hr.mono (PExt.app φ [X.length]) fr
      have hvl : (vh.set n VBlk.dead).length = vh.length := by simp
      have hph := H1.push (b' := .cells true (((cs.drop off).take (len * es') ++ new.flatten).map fun c => c.sh.ow)) (pb := X.length) fr (fun m _ => own1_same (Nat.le_refl _)) ⟨true,_,List.getElem?_concat_length,ow_rvs hr',ow_low ?_,?_⟩ (fun b hb => ?_)
      · refine ⟨_,_,own1 w X.length (.blk vh.length),φ ++ [X.length],hop,frX.trans fr,PExt.app _ _,hph,hE2.mono (PExt.app _ _) fr fun i => own1_same (Nat.le_refl _),?_,Tok.no fun r hr => by cases hr⟩
        rw [← hXl]
        exact .hs (by rw [← H.len]; exact List.getElem?_concat_length)
      · rw [hvl,lowL_append,h2.flat_free,Bool.and_true]
        have := lt_of_getElem? hcs
        exact lowL_mono (show n + 1 ≤ vh.length + 1 by omega) _ (lowL_of fun v hv => lowL_mem g3 v (List.mem_of_mem_drop (List.mem_of_mem_take hv)))
      · rw [hvl,if_pos ⟨rfl,H.lol⟩]
        exact ⟨rfl,by simp [own1],ow_tok hr'⟩
      · simp only [List.length_append,List.length_singleton] at hb
        unfold own1; rw [if_neg (by omega)]; exact H.new b (by omega)
    · cases hE
end
end Vg
/- Operations: copy,make,maps,calls; all of them together. -/
namespace Vg
open Go Lg
set_option linter.unusedSimpArgs false
set_option linter.unusedVariables false
set_option maxHeartbeats 1000000
section
variable {cf : VCall} {lcf : CallF} {lo : Nat} {w : Own} {φ : List Nat} {env : VEnv} {lenv : Env} {vh vh' : VHeap} {lh : Heap} {d : Nat} {v : VV}

theorem sim_make {mt : Bool} {es bytes : Nat} {zs : List LV} {x y : X} (H : HS lo w φ vh lh) (E : ES w φ lh env lenv) (hE : opV cf lo (.make mt es bytes zs x y) env vh = some (v,vh')) : OpRes lcf lo w φ env lenv lh (.make mt es bytes zs x y) d v vh' := by
  simp only [opV] at hE
  have hx := E.x x
  have hy := E.x y
  split at hE
  case h_2 => cases hE
  rename_i n c h1 h2
  split at hE
  case isFalse => cases hE
  rename_i hc
  rw [h1] at hx; rw [h2] at hy
  generalize hl1 : x.ev lenv = l1 at hx
  generalize hl2 : y.ev lenv = l2 at hy
  cases hx; cases hy
  have hop : opE lcf 0 (.make mt es bytes zs x y) lenv lh = some (.slice lh.length 0 n.toNat es true,lh ++ [.cells true (rows zs n.toNat)]) := by simp only [opE,hl1,hl2]; rw [if_pos hc]
  split at hE
  · split at hE
    case isFalse => cases hE
    rename_i hzl
    simp only [Option.some.injEq,Prod.mk.injEq] at hE
    obtain ⟨rfl,rfl⟩ := hE
    have fr : Fr w lh w (lh ++ [.cells true (rows zs n.toNat)]) := fr_app
    refine ⟨_,_,w,φ,hop,fr,PExt.refl _,H.mono fr (fun _ => same_app) (fun b hb => H.new b (by simp at hb; omega)),E.mono (PExt.refl _) fr (fun _ => same_app),?_,Tok.no fun r hr => by cases hr⟩
    have hat : ∀ k,RowsAt w φ (lh ++ [.cells true (rows zs n.toNat)]) es (List.replicate k (nrmL (ofLVs zs))) (rows zs k) := by
      have one : RVs w φ (lh ++ [.cells true (rows zs n.toNat)]) (nrmL (ofLVs zs)) zs := nrmL_rv _ _ (ofLVs_rv _ _ _ zs)
      intro k
      induction k with
      | zero => exact .nil
      | succ k ih =>
        rw [List.replicate_succ,rows]
        have h0 : RowsAt w φ (lh ++ [.cells true (rows zs n.toNat)]) es [nrmL (ofLVs zs)] zs := ⟨by simp [hzl],fun row hr => by
          simp at hr; subst hr
          exact ⟨by rw [one.1,hzl],by rw [nrmL_low]; exact ofLVs_free zs⟩,fun i row j v l hr hv hl => by
          cases i with
          | succ i => simp at hr
          | zero =>
            simp at hr; subst hr
            rw [Nat.zero_mul,Nat.zero_add] at hl
            exact one.2 j v l hv hl⟩
        exact h0.append ih
    have hr := hat n.toNat
    have hl := hr.len
    rw [List.length_replicate] at hl
    have := hr.list (b := lh.length) (off := 0) (m := .f) (full := true) (rw := true) (H.new _ (Nat.le_refl _)) (lcs := rows zs n.toNat) List.getElem?_concat_length (Nat.zero_le _) (by rw [List.length_replicate,List.drop_zero,List.take_of_length_le (by omega)]) (fun _ => rfl)
    rwa [List.length_replicate] at this
  simp only [Option.some.injEq,Prod.mk.injEq] at hE
  obtain ⟨rfl,rfl⟩ := hE
  rw [ofLVs_sh]
  exact new_cells (l := .slice lh.length 0 n.toNat es true) H E rfl hop (ofLVs_rv w φ lh _) (fun _ _ _ h => .hs h) (fun r hr => by cases hr)

theorem sim_copy {es : Nat} {x y : X} (H : HS lo w φ vh lh) (E : ES w φ lh env lenv) (hE : opV cf lo (.copy es x y) env vh = some (v,vh')) : OpRes lcf lo w φ env lenv lh (.copy es x y) d v vh' := by
  simp only [opV] at hE
  have hx := E.x x
  split at hE
  case h_2 => cases hE
  rename_i n off len es' new h1 h2
  obtain ⟨c2,hsrc,hat⟩ := rows_src H (E.x y) h2
  rw [h1] at hx
  generalize hl : x.ev lenv = l at hx
  cases hx with
  | @hs _ _ _ _ pb full hp =>
  split at hE
  case isFalse => cases hE
  rename_i hes
  subst hes
  split at hE
  case h_2 => cases hE
  rename_i rw cs hn
  split at hE
  · rename_i hm0
    cases hE
    obtain ⟨lrw,lcs,g1,g2,g3,g4⟩ := H.cells hn hp
    exact OpRes.val H E rfl (l := .int .i64 0) (by simp only [opE,hsrc,hl,g1,if_true,if_pos hm0]) (.int _ _) (fun r hr => by cases hr)
  · rename_i hm0
    split at hE
    case isFalse => cases hE
    rename_i hc
    obtain ⟨hrw,hlo,hle⟩ := hc
    simp only [Option.some.injEq,Prod.mk.injEq] at hE
    obtain ⟨rfl,rfl⟩ := hE
    obtain ⟨lrw,lcs,g1,g2,g3,g4⟩ := H.cells hn hp
    rw [if_pos ⟨hrw,hlo⟩] at g4
    obtain ⟨rfl,g5,g6⟩ := g4
    have ht := hat.take (min new.length len)
    have hf := ht.flat
    let lh' := lh.set pb (.cells true (Lg.splice lcs off (c2.take (min new.length len * es'))))
    have keep : ∀ q,q ≠ pb → lh'[q]? = lh[q]? := fun q hq => List.getElem?_set_ne (fun e => hq e.symm)
    have fr : Fr w lh w lh' := ⟨by simp [lh'],fun q hq hw => ⟨hw,keep q (by rintro rfl; rw [g5] at hw; cases hw)⟩,fun q hq hw => ⟨hw,keep q (by rintro rfl; rw [g5] at hw; cases hw)⟩⟩
    have same : ∀ P : Owner → Prop,¬ P (.blk n) → Same P w lh w lh' := fun P hp2 q y hq hw hy => ⟨hw,keep q (by rintro rfl; rw [g5] at hw; cases hw; exact hp2 hy)⟩
    have hpb := lt_of_getElem? g1
    have hf2 := hf.mono (PExt.refl φ) fr
    have hlen : ((List.take (min new.length len) new).flatten.map fun c => c.sh.ow).length = min new.length len * es' := by
      rw [List.length_map,hf.1,ht.len,List.length_take]
      congr 1; omega
    have hlen2 : (c2.take (min new.length len * es')).length = min new.length len * es' := by rw [ht.len,List.length_take]; congr 1; omega
    have hml : min new.length len * es' ≤ len * es' := Nat.mul_le_mul_right _ (Nat.min_le_right _ _)
    refine ⟨.int .i64 (min new.length len : Nat),lh',w,φ,?_,fr,PExt.refl _,H.upd fr (fun m hm => same _ (fun h => hm h.symm)) (fun pb' hp' => ?_) (fun b hb => H.new b (by simpa [lh'] using hb)),E.mono (PExt.refl _) fr (fun i => same _ (fun h => by cases h)),.int _ _,Tok.no fun r hr => by cases hr⟩
    · simp only [opE,hsrc,hl,g1,if_true,if_neg hm0]
      rw [if_pos ⟨trivial,Nat.zero_le _,by rw [← g2.1]; exact hle⟩]
    · rw [hp] at hp'; cases hp'
      have hl1 := g2.1
      refine ⟨true,_,List.getElem?_set_self hpb,(g2.mono (PExt.refl _) fr).splice (ow_rvs hf2) off,?_,?_⟩
      · refine lowL_of fun y hy => ?_
        unfold vsplice at hy
        rcases List.mem_append.1 hy with hy | hy
        · rcases List.mem_append.1 hy with hy | hy
          · exact lowL_mem g3 y (List.mem_of_mem_take hy)
          · exact lowL_mem (ow_low (ht.flat_free (n + 1))) y hy
        · exact lowL_mem g3 y (List.mem_of_mem_drop hy)
      · rw [if_pos ⟨hrw,hlo⟩]
        refine ⟨rfl,g5,fun i y ly hy hly => ?_⟩
        have old : ∀ (j : Nat),cs[j]? = some y → lcs[j]? = some ly → Tok w lh' (.cell n j) y ly := fun j a1 a2 =>
          (g6 j y ly a1 a2).mono ⟨φ,g2.2 j y ly a1 a2⟩ fr (same _ (fun e => by cases e))
        unfold vsplice at hy
        unfold Lg.splice at hly
        rcases Nat.lt_or_ge i off with hi | hi
        · rw [List.append_assoc,List.getElem?_append_left (by simp; omega),List.getElem?_take,if_pos hi] at hy hly
          exact old i hy hly
        · rcases Nat.lt_or_ge i (off + min new.length len * es') with hj | hj
          · obtain ⟨j,rfl⟩ : ∃ j,i = off + j := ⟨i - off,by omega⟩
            rw [List.append_assoc,List.getElem?_append_right (by simp; omega)] at hy hly
            simp only [List.length_take,Nat.min_eq_left (show off ≤ cs.length by omega),Nat.min_eq_left (show off ≤ lcs.length by omega),Nat.add_sub_cancel_left] at hy hly
            rw [List.getElem?_append_left (by omega)] at hy hly
            exact ow_tok (o := fun _ => .cell n (off + j)) hf2 j y ly hy hly
          · rw [List.getElem?_append_right (by rw [List.length_append,hlen,List.length_take]; omega),List.getElem?_drop] at hy
            rw [List.getElem?_append_right (by rw [List.length_append,hlen2,List.length_take]; omega),List.getElem?_drop] at hly
            rw [List.length_append,hlen,List.length_take] at hy
            rw [List.length_append,hlen2,List.length_take] at hly
            have e1 : off + min new.length len * es' + (i - (min off cs.length + min new.length len * es')) = i := by omega
            have e2 : off + min new.length len * es' + (i - (min off lcs.length + min new.length len * es')) = i := by omega
            rw [e1] at hy; rw [e2] at hly
            exact old i hy hly

theorem intsOf_ne : ∀ {ls : List LV} {l : List Int},intsOf ls = some l → ∀ x ∈ ls,x ≠ .undef
  | [],_,_,x,hx => by cases hx
  | v :: ls,l,h,x,hx => by
    unfold intsOf at h
    split at h
    · rename_i e; cases e
    · rename_i n r e
      cases e
      split at h
      · rename_i l' hl
        rcases List.mem_cons.1 hx with rfl | hx
        · exact fun h => by cases h
        · exact intsOf_ne hl x hx
      · cases h
    · cases h
theorem rw_ok {k : RwK} {len : Nat} {vs : List VV} {ls out : List LV} (h : RVs w φ lh vs ls) (hr : rwE k len (vs.map VV.sc) = some out) : rwE k len ls = some out := by
  cases k with
  | clear zs => exact hr
  | sort es =>
    simp only [rwE] at hr ⊢
    split at hr
    case h_2 => cases hr
    rename_i l hl
    rw [h.scs (intsOf_ne hl),hl]
    exact hr
theorem ofLV_sc {l : LV} (h : scLV l = true) : ∃ v,ofLV l = v ∧ scal v = true ∧ v.sc = l := by
  cases l <;> simp [scLV] at h <;> exact ⟨_,rfl,rfl,rfl⟩
theorem ofLVs_eq : ∀ ls : List LV,ofLVs ls = ls.map ofLV
  | [] => rfl
  | l :: ls => by simp only [ofLVs,List.map_cons,ofLVs_eq ls]
theorem sim_rewr {k : RwK} {es : Nat} {g : FuncId} {x f : X} (H : HS lo w φ vh lh) (E : ES w φ lh env lenv) (hE : opV cf lo (.rewr k es g x f) env vh = some (v,vh')) : OpRes lcf lo w φ env lenv lh (.rewr k es g x f) d v vh' := by
  simp only [opV] at hE
  have hx := E.x x
  have hf := E.x f
  split at hE
  case h_2 => cases hE
  rename_i g' hvf
  split at hE
  case isFalse => cases hE
  rename_i hg
  subst hg
  rw [hvf] at hf
  have hlf : f.ev lenv = .func g' [] := by
    generalize f.ev lenv = lf at hf
    cases hf with
    | func _ _ ls hl hh =>
      cases ls with
      | nil => rfl
      | cons => simp at hl
  split at hE
  · rename_i m hvx
    cases hE
    rw [hvx] at hx
    refine OpRes.val H E rfl (l := .tup []) ?_ (.tup [] [] rfl (fun i v l h => by simp at h)) (fun r hr => by cases hr)
    simp only [opE,hlf,if_true]
    generalize hl : x.ev lenv = l at hx
    generalize hr0 : ([] : List (List VV)) = r0 at hx
    cases hx with
    | nil => rfl
    | list0 => rfl
    | list => subst hr0; rfl
  · rename_i n off len es' hvx
    rw [hvx] at hx
    generalize hl : x.ev lenv = l at hx
    cases hx with
    | @hs _ _ _ _ pb full hp =>
    split at hE
    · rename_i h0
      subst h0
      cases hE
      exact OpRes.val H E rfl (l := .tup []) (by simp only [opE,hlf,if_true,hl]) (.tup [] [] rfl (fun i v l h => by simp at h)) (fun r hr => by cases hr)
    · rename_i h0
      split at hE
      case isFalse => cases hE
      rename_i hes
      subst hes
      split at hE
      case h_2 => cases hE
      rename_i rw cs hn
      split at hE
      case isFalse => cases hE
      rename_i hc
      obtain ⟨hrw,hlo,hle⟩ := hc
      split at hE
      case h_2 => cases hE
      rename_i out hout
      split at hE
      case isFalse => cases hE
      rename_i hol
      obtain ⟨hlen,hsc⟩ := hol
      simp only [Option.some.injEq,Prod.mk.injEq] at hE
      obtain ⟨rfl,rfl⟩ := hE
      obtain ⟨lrw,lcs,g1,g2,g3,g4⟩ := H.cells hn hp
      rw [if_pos ⟨hrw,hlo⟩] at g4
      obtain ⟨rfl,g5,g6⟩ := g4
      have hlout : rwE k len ((lcs.drop off).take (len * es')) = some out := rw_ok ((g2.drop off).take (len * es')) hout
      let lh' := lh.set pb (.cells true (Lg.splice lcs off out))
      have keep : ∀ q,q ≠ pb → lh'[q]? = lh[q]? := fun q hq => List.getElem?_set_ne (fun e => hq e.symm)
      have fr : Fr w lh w lh' := ⟨by simp [lh'],fun q hq hw => ⟨hw,keep q (by rintro rfl; rw [g5] at hw; cases hw)⟩,fun q hq hw => ⟨hw,keep q (by rintro rfl; rw [g5] at hw; cases hw)⟩⟩
      have same : ∀ P : Owner → Prop,¬ P (.blk n) → Same P w lh w lh' := fun P hp2 q y hq hw hy => ⟨hw,keep q (by rintro rfl; rw [g5] at hw; cases hw; exact hp2 hy)⟩
      have hpb := lt_of_getElem? g1
      have hov := ofLVs_rv w φ lh' out
      have hvl : (ofLVs out).length = len * es' := by rw [hov.1]; exact hlen
      have hscal : ∀ y ∈ ofLVs out,scal y = true := fun y hy => by
        obtain ⟨i,hi⟩ := List.mem_iff_getElem?.1 hy
        obtain ⟨l0,hl0⟩ := getElem?_lists hov.1 hi
        have h1 := List.all_eq_true.1 hsc l0 (List.mem_of_getElem? hl0)
        obtain ⟨v0,e1,e2,_⟩ := ofLV_sc h1
        rw [ofLVs_eq,List.getElem?_map,hl0] at hi
        cases hi
        rw [e1]; exact e2
      refine ⟨.tup [],lh',w,φ,?_,fr,PExt.refl _,H.upd fr (fun m hm => same _ (fun h => hm h.symm)) (fun pb' hp' => ?_) (fun b hb => H.new b (by simpa [lh'] using hb)),E.mono (PExt.refl _) fr (fun i => same _ (fun h => by cases h)),.tup [] [] rfl (fun i v l h => by simp at h),Tok.no fun r hr => by cases hr⟩
      · simp only [opE,hlf,if_true,hl,if_neg h0,g1]
        rw [if_pos ⟨trivial,Nat.zero_le _,by rw [← g2.1]; exact hle⟩,hlout]
        simp only [hlen,hsc,and_self,if_true]
        rfl
      · rw [hp] at hp'; cases hp'
        have hl1 := g2.1
        refine ⟨true,_,List.getElem?_set_self hpb,(g2.mono (PExt.refl _) fr).splice hov off,?_,?_⟩
        · refine lowL_of fun y hy => ?_
          unfold vsplice at hy
          rcases List.mem_append.1 hy with hy | hy
          · rcases List.mem_append.1 hy with hy | hy
            · exact lowL_mem g3 y (List.mem_of_mem_take hy)
            · exact scal_low (hscal y hy)
          · exact lowL_mem g3 y (List.mem_of_mem_drop hy)
        · rw [if_pos ⟨hrw,hlo⟩]
          refine ⟨rfl,g5,fun i y ly hy hly => ?_⟩
          have old : ∀ (j : Nat),cs[j]? = some y → lcs[j]? = some ly → Tok w lh' (.cell n j) y ly := fun j a1 a2 =>
            (g6 j y ly a1 a2).mono ⟨φ,g2.2 j y ly a1 a2⟩ fr (same _ (fun e => by cases e))
          unfold vsplice at hy
          unfold Lg.splice at hly
          rcases Nat.lt_or_ge i off with hi | hi
          · rw [List.append_assoc,List.getElem?_append_left (by simp; omega),List.getElem?_take,if_pos hi] at hy hly
            exact old i hy hly
          · rcases Nat.lt_or_ge i (off + len * es') with hj | hj
            · obtain ⟨j,rfl⟩ : ∃ j,i = off + j := ⟨i - off,by omega⟩
              rw [List.append_assoc,List.getElem?_append_right (by simp; omega)] at hy
              simp only [List.length_take,Nat.min_eq_left (show off ≤ cs.length by omega),Nat.add_sub_cancel_left] at hy
              rw [List.getElem?_append_left (by omega)] at hy
              have hs := hscal y (List.mem_of_getElem? hy)
              exact Tok.no fun r hr => by rw [hr] at hs; cases hs
            · rw [List.getElem?_append_right (by rw [List.length_append,hvl,List.length_take]; omega),List.getElem?_drop] at hy
              rw [List.getElem?_append_right (by rw [List.length_append,hlen,List.length_take]; omega),List.getElem?_drop] at hly
              rw [List.length_append,hvl,List.length_take] at hy
              rw [List.length_append,hlen,List.length_take] at hly
              have e1 : off + len * es' + (i - (min off cs.length + len * es')) = i := by omega
              have e2 : off + len * es' + (i - (min off lcs.length + len * es')) = i := by omega
              rw [e1] at hy; rw [e2] at hly
              exact old i hy hly
  · cases hE
theorem sim_capL {x : X} (H : HS lo w φ vh lh) (E : ES w φ lh env lenv) (hE : opV cf lo (.capL x) env vh = some (v,vh')) : OpRes lcf lo w φ env lenv lh (.capL x) d v vh' := by
  simp only [opV] at hE
  have hx := E.x x
  split at hE
  case h_2 => cases hE
  rename_i r hv
  cases hE
  rw [hv] at hx
  generalize hl : x.ev lenv = l at hx
  cases hx with
  | nil => exact OpRes.val H E rfl (l := .int .i64 0) (by simp only [opE,hl]) (.int _ _) (fun r hr => by cases hr)
  | list0 m n off es full hm => exact OpRes.val H E rfl (l := .int .i64 0) (by simp only [opE,hl,hm rfl,if_true]; rfl) (.int _ _) (fun r hr => by cases hr)
  | list hw hb hl' hm hr hh => exact OpRes.val H E rfl (l := .int .i64 r.length) (by simp only [opE,hl,hm rfl,if_true]) (.int _ _) (fun r hr => by cases hr)
theorem sim_concat {es bytes : Nat} {x : X} (H : HS lo w φ vh lh) (E : ES w φ lh env lenv) (hE : opV cf lo (.concat es bytes x) env vh = some (v,vh')) : OpRes lcf lo w φ env lenv lh (.concat es bytes x) d v vh' := by
  simp only [opV] at hE
  have hx := E.x x
  split at hE
  case h_2 => cases hE
  rename_i m a b hvx
  split at hE
  case h_2 => cases hE
  rename_i ra rb ha hb
  split at hE
  case isFalse => cases hE
  rename_i hsz
  cases hE
  rw [hvx] at hx
  generalize hl : x.ev lenv = l at hx
  generalize hrr : [[a],[b]] = rr at hx
  cases hx with
  | nil => cases hrr
  | list0 => cases hrr
  | @list _ rows q off es1 full rw lcs hw hbk hle hm hr hh =>
    subst hrr
    have hes : es1 = 1 := (hr [a] (by simp)).1.symm
    subst hes
    obtain ⟨la,hla⟩ : ∃ la,lcs[off]? = some la := ⟨_,List.getElem?_eq_getElem (by simp at hle; omega)⟩
    obtain ⟨lb,hlb⟩ : ∃ lb,lcs[off + 1]? = some lb := ⟨_,List.getElem?_eq_getElem (by simp at hle; omega)⟩
    obtain ⟨ca,hsa,hata⟩ := rows_src H (hh 0 [a] 0 a la rfl rfl (by simpa using hla)) ha
    obtain ⟨cb,hsb,hatb⟩ := rows_src H (hh 1 [b] 0 b lb rfl rfl (by simpa using hlb)) hb
    by_cases h0 : ra.length + rb.length = 0
    · have e1 : ra = [] := List.length_eq_zero_iff.1 (by omega)
      have e2 : rb = [] := List.length_eq_zero_iff.1 (by omega)
      refine OpRes.val H E rfl (l := .nilslice) ?_ (by rw [e1,e2]; exact .nil _) (fun r hr => by cases hr)
      simp only [opE,hl,List.length_cons,List.length_nil,hbk,hla,hlb,hsa,hsb,h0,if_true]
    · obtain ⟨X,hX⟩ : ∃ X : Heap,X = if ra.length = 0 ∨ rb.length = 0 then [.dead] else [.dead,.dead] := ⟨_,rfl⟩
      have hXl : X.length = if ra.length = 0 ∨ rb.length = 0 then 1 else 2 := by rw [hX]; split <;> rfl
      have fr : Fr w lh w (lh ++ (X ++ [.cells true (ca ++ cb)])) := fr_app
      have hat := (hata.mono (PExt.refl φ) fr).append (hatb.mono (PExt.refl φ) fr)
      refine ⟨.slice (lh.length + X.length) 0 (ra.length + rb.length) es false,lh ++ (X ++ [.cells true (ca ++ cb)]),w,φ,?_,fr,PExt.refl _,H.mono fr (fun _ => same_app) (fun b hb => H.new b (by simp at hb; omega)),E.mono (PExt.refl _) fr (fun _ => same_app),?_,Tok.no fun r hr => by cases hr⟩
      · simp only [opE,hl,List.length_cons,List.length_nil,hbk,hla,hlb,hsa,hsb,if_neg h0,if_pos hsz,hXl,← hX,List.append_assoc]
      · have hget : (lh ++ (X ++ [LBlk.cells true (ca ++ cb)]))[lh.length + X.length]? = some (.cells true (ca ++ cb)) := by
          rw [← List.append_assoc,← List.length_append]; exact List.getElem?_concat_length
        have := hat.list (b := lh.length + X.length) (off := 0) (rw := true) (m := .s) (full := false) (H.new _ (Nat.le_add_right _ _)) (lcs := ca ++ cb) hget (Nat.zero_le _) (by rw [List.drop_zero,List.take_of_length_le (by rw [hat.len]; exact Nat.le_refl _)]) (fun h => by cases h)
        rwa [List.length_append] at this
theorem skey_sc {k : VV} (h : skey k = true) : k.sc ≠ .undef := by
  cases k <;> simp [skey] at h <;> simp [VV.sc]
theorem skey_simple {k : VV} (h : skey k = true) : simpleKey k.sc = true := by
  cases k <;> simp [skey] at h <;> rfl
theorem keyV_sc {a b : VV} {r : Bool} (h : keyV a b = some r) : keyEq a.sc b.sc = some r := by
  unfold keyV at h
  split at h <;> first | exact h | cases h

/-- Two maps,entry by entry. -/
def EsR (w : Own) (φ : List Nat) (lh : Heap) (es : List (VV × VV)) (les : List (LV × LV)) : Prop := es.length = les.length ∧ ∀ (i : Nat) (e : VV × VV) (le : LV × LV),es[i]? = some e → les[i]? = some le → e.1.sc = le.1 ∧ skey e.1 = true ∧ RV w φ lh e.2 le.2 ∧ e.2.low 0 = true
theorem EsR.uncons {e : VV × VV} {le : LV × LV} {es : List (VV × VV)} {les : List (LV × LV)} (h : EsR w φ lh (e :: es) (le :: les)) : (e.1.sc = le.1 ∧ skey e.1 = true ∧ RV w φ lh e.2 le.2 ∧ e.2.low 0 = true) ∧ EsR w φ lh es les :=
  ⟨h.2 0 e le rfl rfl,by have := h.1; simpa using this,fun i a b ha hb => h.2 (i + 1) a b (by simpa using ha) (by simpa using hb)⟩
theorem EsR.cons {e : VV × VV} {le : LV × LV} {es : List (VV × VV)} {les : List (LV × LV)} (h1 : e.1.sc = le.1 ∧ skey e.1 = true ∧ RV w φ lh e.2 le.2 ∧ e.2.low 0 = true) (h : EsR w φ lh es les) : EsR w φ lh (e :: es) (le :: les) :=
  ⟨by simp [h.1],fun i a b ha hb => by
    cases i with
    | zero => simp at ha hb; subst ha; subst hb; exact h1
    | succ i => exact h.2 i a b (by simpa using ha) (by simpa using hb)⟩
theorem find_rv {k : VV} : ∀ {es : List (VV × VV)} {les : List (LV × LV)} {r : Option VV},EsR w φ lh es les → findV k es = some r → ∃ lr,findE k.sc les = some lr ∧ ((r = none ∧ lr = none) ∨ ∃ v l,r = some v ∧ lr = some l ∧ RV w φ lh v l)
  | [],[],r,h,hf => by simp only [findV,Option.some.injEq] at hf; subst hf; exact ⟨none,rfl,.inl ⟨rfl,rfl⟩⟩
  | [],_ :: _,_,h,_ => by have := h.1; simp at this
  | _ :: _,[],_,h,_ => by have := h.1; simp at this
  | (k',v) :: es,(lk,lv) :: les,r,h,hf => by
    obtain ⟨⟨h1,h2,h3,h4⟩,h5⟩ := h.uncons
    simp only at h1
    simp only [findV] at hf
    split at hf
    · rename_i hk
      have := keyV_sc hk
      rw [h1] at this
      simp only [Option.some.injEq] at hf; subst hf
      exact ⟨some lv,by simp only [findE,this],.inr ⟨v,lv,rfl,rfl,h3⟩⟩
    · rename_i hk
      have := keyV_sc hk
      rw [h1] at this
      obtain ⟨lr,h6,h7⟩ := find_rv h5 hf
      exact ⟨lr,by simp only [findE,this]; exact h6,h7⟩
    · cases hf
theorem upd_rv {k v : VV} {lv : LV} (hk : skey k = true) (hv : RV w φ lh v lv) (hl : v.low 0 = true) : ∀ {es es' : List (VV × VV)} {les : List (LV × LV)},EsR w φ lh es les → updV k v es = some es' → ∃ les',updE k.sc lv les = some les' ∧ EsR w φ lh es' les'
  | [],es',[],h,hf => by
    simp only [updV,Option.some.injEq] at hf; subst hf
    exact ⟨_,rfl,.cons ⟨rfl,hk,hv,hl⟩ h⟩
  | [],_,_ :: _,h,_ => by have := h.1; simp at this
  | _ :: _,_,[],h,_ => by have := h.1; simp at this
  | (k',v') :: es,es',(lk,lv') :: les,h,hf => by
    obtain ⟨⟨h1,h2,h3,h4⟩,h5⟩ := h.uncons
    simp only at h1
    simp only [updV] at hf
    split at hf
    · rename_i hkk
      have := keyV_sc hkk
      rw [h1] at this
      simp only [Option.some.injEq] at hf; subst hf
      exact ⟨(lk,lv) :: les,by simp only [updE,this],.cons ⟨h1,h2,hv,hl⟩ h5⟩
    · rename_i hkk
      have := keyV_sc hkk
      rw [h1] at this
      split at hf
      case h_2 => cases hf
      rename_i r' hr'
      simp only [Option.some.injEq] at hf; subst hf
      obtain ⟨les',h6,h7⟩ := upd_rv hk hv hl h5 hr'
      exact ⟨(lk,lv') :: les',by simp only [updE,this,h6],.cons ⟨h1,h2,h3,h4⟩ h7⟩
    · cases hf

theorem sim_mkmap (H : HS lo w φ vh lh) (E : ES w φ lh env lenv) (hE : opV cf lo .mkmap env vh = some (v,vh')) : OpRes lcf lo w φ env lenv lh .mkmap d v vh' := by
  simp only [opV,Option.some.injEq,Prod.mk.injEq] at hE
  obtain ⟨rfl,rfl⟩ := hE
  have fr := own1_fr (w := w) (lh := lh) (o := .blk vh.length) (x := [.map []]) (Nat.le_refl _)
  refine ⟨.map lh.length,_,own1 w lh.length (.blk vh.length),φ ++ [lh.length],rfl,fr,PExt.app _ _,H.push fr (fun m _ => own1_same (Nat.le_refl _)) ⟨[],List.getElem?_concat_length,rfl,fun i e le h => by simp at h,?_⟩ (fun b hb => ?_),E.mono (PExt.app _ _) fr fun i => own1_same (Nat.le_refl _),.map (by rw [← H.len]; exact List.getElem?_concat_length),Tok.no fun r hr => by cases hr⟩
  · rw [if_pos H.lol]; simp [own1]
  · simp only [List.length_append,List.length_singleton] at hb
    unfold own1; rw [if_neg (by omega)]; exact H.new b (by omega)

theorem sim_lookup {zero : LV} {ok : Bool} {m k : X} (H : HS lo w φ vh lh) (E : ES w φ lh env lenv) (hE : opV cf lo (.lookup zero ok m k) env vh = some (v,vh')) : OpRes lcf lo w φ env lenv lh (.lookup zero ok m k) d v vh' := by
  simp only [opV] at hE
  split at hE
  case isFalse => cases hE
  rename_i hk
  have hkl := (E.x k).sc (skey_sc hk)
  have hm := E.x m
  have zr : ∀ (w : Own) (φ : List Nat) (lh : Heap),RV w φ lh (if ok then .tup [ofLV zero,.bool false] else ofLV zero) (if ok then .tup [zero,.bool false] else zero) := by
    intro w φ lh
    cases ok with
    | true => exact (RVs.cons (ofLV_rv _ _ _ _) (.cons (.bool _) .nil)).tup
    | false => exact ofLV_rv _ _ _ _
  have zn : ∀ r,(if ok then VV.tup [ofLV zero,.bool false] else ofLV zero) ≠ .list .o r := by
    intro r; cases ok with
    | true => exact fun h => by cases h
    | false => exact ofLV_ne zero r
  split at hE
  · rename_i hmm
    cases hE
    rw [hmm] at hm
    generalize hl : m.ev lenv = l at hm
    cases hm
    exact OpRes.val H E rfl (by simp only [opE,hkl,hl]; rw [if_pos (skey_simple hk)]) (zr _ _ _) zn
  · rename_i n hmm
    rw [hmm] at hm
    generalize hl : m.ev lenv = l at hm
    cases hm with
    | map hp =>
    split at hE
    case h_2 => cases hE
    rename_i es hn
    obtain ⟨les,h1,h2,h3,h4⟩ := H.blk n _ _ hn hp
    have hes : EsR w φ lh es les := ⟨h2,h3⟩
    split at hE
    · rename_i v0 hf
      cases hE
      obtain ⟨lr,h5,h6⟩ := find_rv hes hf
      rcases h6 with ⟨h6,_⟩ | ⟨v1,l1,h6,rfl,h8⟩
      · cases h6
      cases h6
      refine OpRes.val H E rfl (l := if ok then .tup [l1,.bool true] else l1) ?_ ?_ ?_
      · simp only [opE,hkl,hl,h1,h5]; rw [if_pos (skey_simple hk)]
      · cases ok with
        | true => exact (RVs.cons h8 (.cons (.bool _) .nil)).tup
        | false => exact h8.sh
      · intro r; cases ok with
        | true => exact fun h => by cases h
        | false => exact sh_ne _ r
    · rename_i hf
      cases hE
      obtain ⟨lr,h5,h6⟩ := find_rv hes hf
      rcases h6 with ⟨_,rfl⟩ | ⟨v1,l1,h6,_⟩
      · exact OpRes.val H E rfl (by simp only [opE,hkl,hl,h1,h5]; rw [if_pos (skey_simple hk)]) (zr _ _ _) zn
      · cases h6
    · cases hE
  · cases hE

theorem sim_update {m k x : X} (H : HS lo w φ vh lh) (E : ES w φ lh env lenv) (hE : opV cf lo (.update m k x) env vh = some (v,vh')) : OpRes lcf lo w φ env lenv lh (.update m k x) d v vh' := by
  simp only [opV] at hE
  split at hE
  case isFalse => cases hE
  rename_i hk
  have hkl := (E.x k).sc (skey_sc hk)
  have hm := E.x m
  split at hE
  case h_2 => cases hE
  rename_i n hmm
  rw [hmm] at hm
  generalize hl : m.ev lenv = l at hm
  cases hm with
  | @map _ pb hp =>
  split at hE
  case h_2 => cases hE
  rename_i es hn
  split at hE
  case isFalse => cases hE
  rename_i hc
  split at hE
  case h_2 => cases hE
  rename_i es' hu
  simp only [Option.some.injEq,Prod.mk.injEq] at hE
  obtain ⟨rfl,rfl⟩ := hE
  obtain ⟨les,h1,h2,h3,h4⟩ := H.blk n _ _ hn hp
  rw [if_pos hc.1] at h4
  obtain ⟨les',h5,h6⟩ := upd_rv hk (E.xs x) hc.2 ⟨h2,h3⟩ hu
  let lh' := lh.set pb (.map les')
  have keep : ∀ q,q ≠ pb → lh'[q]? = lh[q]? := fun q hq => List.getElem?_set_ne (fun e => hq e.symm)
  have fr : Fr w lh w lh' := ⟨by simp [lh'],fun q hq hw => ⟨hw,keep q (by rintro rfl; rw [h4] at hw; cases hw)⟩,fun q hq hw => ⟨hw,keep q (by rintro rfl; rw [h4] at hw; cases hw)⟩⟩
  have same : ∀ P : Owner → Prop,¬ P (.blk n) → Same P w lh w lh' := fun P hp2 q y hq hw hy => ⟨hw,keep q (by rintro rfl; rw [h4] at hw; cases hw; exact hp2 hy)⟩
  refine ⟨.tup [],lh',w,φ,?_,fr,PExt.refl _,H.upd fr (fun m hm => same _ (fun h => hm h.symm)) (fun pb' hp' => ?_) (fun b hb => H.new b (by simpa [lh'] using hb)),E.mono (PExt.refl _) fr (fun i => same _ (fun h => by cases h)),RVs.nil.tup,Tok.no fun r hr => by cases hr⟩
  · simp only [opE,hkl,hl,h1,h5]; rw [if_pos (skey_simple hk),if_pos (Nat.zero_le _)]
  · rw [hp] at hp'; cases hp'
    refine ⟨les',List.getElem?_set_self (lt_of_getElem? h1),h6.1,fun i e le a b => ⟨(h6.2 i e le a b).1,(h6.2 i e le a b).2.1,(h6.2 i e le a b).2.2.1.mono (PExt.refl _) fr,(h6.2 i e le a b).2.2.2⟩,?_⟩
    rw [if_pos hc.1]; exact h4

def OpResS (cs : CallS) (lo : Nat) (w : Own) (φ : List Nat) (env : VEnv) (lenv : Env) (vh : VHeap) (lh : Heap) (op : LOp) (d : Nat) (v : VV) (vh' : VHeap) : Prop :=
  opS cs op lenv lh fun l lh' => ∃ w' φ',Fr w lh w' lh' ∧ PExt φ φ' ∧ HS lo w' φ' vh' lh' ∧ ES w' φ' lh' (post op env vh) lenv ∧ RV w' φ' lh' v l ∧ Tok w' lh' (.env d) v l

/-- What is said of calls may be said less of. -/
def CsMono (cs : CallS) : Prop := ∀ f args h (Q Q' : LV → Heap → Prop),(∀ v h,Q v h → Q' v h) → cs f args h Q → cs f args h Q'

variable {cs : CallS}
theorem sim_call (hm : CsMono cs) {f : FuncId} {args : List VV} {largs : List LV} {op : LOp} (hcf : CallSim cf cs) (hs : loses op = none) (hms : isStore op = false) (hop : ∀ Q,cs f largs lh Q → opS cs op lenv lh Q) (H : HS lo w φ vh lh) (E : ES w φ lh env lenv) (hr : RVs w φ lh args largs) (hE : cf lo f args vh = some (v,vh')) : OpResS cs lo w φ env lenv vh lh op d v vh' := by
  refine hop _ (hm _ _ _ _ _ ?_ (hcf lo f args vh v vh' hE w φ largs lh d H hr))
  rintro l lh' ⟨w',φ',h2,h3,h4,h5,h6,h7⟩
  refine ⟨w',φ',h2,h4,h5,?_,h6,h7⟩
  rw [post_eq hms]; unfold strip; rw [hs]
  exact E.monoT h4 h2 h3

/-- A call that has nothing to do with the blocks. -/
theorem sim_callpu (hm : CsMono cs) {f : FuncId} {args : List VV} {largs : List LV} {op : LOp} {h0 : VHeap} (hcf : CallSim cf cs) (hs : loses op = none) (hms : isStore op = false) (hop : ∀ Q,cs f largs lh Q → opS cs op lenv lh Q) (H : HS lo w φ vh lh) (E : ES w φ lh env lenv) (hr : RVs w φ lh args largs) (hlow : lowL 0 args = true) (hv : v.low 0 = true)
    (hE : cf 0 f args [] = some (v,h0)) : OpResS cs lo w φ env lenv vh lh op d v vh := by
  let isB : Option Owner → Bool := fun x => match x with
    | some (.blk _) | some (.cell _ _) => true
    | _ => false
  let w1 : Own := fun b => if isB (w b) then some .ext else w b
  have h1n : ∀ b,w b = none → w1 b = none := fun b hb => by simp only [w1,hb,isB]; rfl
  have hr1 : RVs w1 [] lh args largs := hr.tr hlow (fun n b hn => absurd hn (Nat.not_lt_zero n)) fun b x hb _ hw => ⟨h1n b hw,hb⟩
  refine hop _ (hm _ _ _ _ _ ?_ (hcf 0 f args [] v h0 hE w1 [] largs lh d ⟨rfl,Nat.zero_le _,fun n b pb hb => by simp at hb,fun b hb => h1n b (H.new b hb)⟩ hr1))
  rintro l lh' ⟨w',φ',h2,h3,h4,h5,h6,h7⟩
  let w2 : Own := fun b => if isB (w b) then w b else if isB (w' b) then none else w' b
  have hK : ∀ b,isB (w b) = true → b < lh.length := fun b hb => by
    rcases Nat.lt_or_ge b lh.length with h | h
    · exact h
    · rw [H.new b h] at hb; cases hb
  have hKx : ∀ b,isB (w b) = true → w' b = some .ext ∧ lh'[b]? = lh[b]? := fun b hb => h2.ext b (hK b hb) (by simp only [w1,hb,if_true])
  have fr : Fr w lh w2 lh' := ⟨h2.le,fun b hb hw => by
    have h8 := h2.keep b hb (h1n b hw)
    refine ⟨?_,h8.2⟩
    simp only [w2,hw,h8.1,isB,Bool.false_eq_true,if_false],fun b hb hw => by
    have h8 := h2.ext b hb (by simp only [w1,hw,isB,Bool.false_eq_true,if_false])
    refine ⟨?_,h8.2⟩
    simp only [w2,hw,h8.1,isB,Bool.false_eq_true,if_false]⟩
  have fw : Fw w' lh' w2 lh' := fun b x hb _ hw => by
    refine ⟨?_,hb⟩
    by_cases hk : isB (w b) = true
    · rw [(hKx b hk).1] at hw; cases hw
    · simp only [w2,if_neg hk,hw,isB]; rfl
  refine ⟨w2,φ,fr,PExt.refl _,H.mono fr (fun n b x hb hw hx => ?_) (fun b hb => ?_),?_,h6.tr hv (fun n b hn => absurd hn (Nat.not_lt_zero n)) fw,?_⟩
  · have hk : isB (w b) = true := by rw [hw]; cases x <;> first | rfl | cases hx
    exact ⟨by simp only [w2,if_pos hk]; exact hw,(hKx b hk).2⟩
  · have h8 := h5.new b hb
    simp only [w2]
    rw [if_neg (fun h => by have := hK b h; have := h2.le; omega),h8]; rfl
  · rw [post_eq hms]; unfold strip; rw [hs]
    refine E.monoT (PExt.refl _) fr fun i b x m u hb hw hx => ?_
    subst hx
    have h8 := h3 i b _ m u hb (by simp only [w1,hw,isB,Bool.false_eq_true,if_false]) rfl
    refine ⟨?_,h8.2⟩
    simp only [w2,hw,h8.1,isB,Bool.false_eq_true,if_false]
  · intro r hr'
    rcases h7 r hr' with h | h | ⟨n,off,len,es,lcs,q1,q2,q3,q4,q5⟩
    · exact .inl h
    · exact .inr (.inl h)
    · refine .inr (.inr ⟨n,off,len,es,lcs,q1,q2,q3,?_,q5⟩)
      have hk : ¬ isB (w (n + 1)) = true := fun hk => by rw [(hKx _ hk).1] at q4; cases q4
      simp only [w2,if_neg hk,q4,isB,Bool.false_eq_true,if_false]

theorem OpRes.s {op : LOp} (h : OpRes noCall lo w φ env lenv lh op d v vh') (hop : ∀ Q,(∃ l h',opE noCall 0 op lenv lh = some (l,h') ∧ Q l h') → opS cs op lenv lh Q) (hms : isStore op = false := by rfl) : OpResS cs lo w φ env lenv vh lh op d v vh' := by
  obtain ⟨l,lh',w',φ',h1,h2⟩ := h
  exact hop _ ⟨l,lh',h1,w',φ',by rw [post_eq hms]; exact h2⟩
theorem OpResP.s {op : LOp} (h : OpResP noCall lo w φ env lenv vh lh op d v vh') (hop : ∀ Q,(∃ l h',opE noCall 0 op lenv lh = some (l,h') ∧ Q l h') → opS cs op lenv lh Q) : OpResS cs lo w φ env lenv vh lh op d v vh' := by
  obtain ⟨l,lh',w',φ',h1,h2⟩ := h
  exact hop _ ⟨l,lh',h1,w',φ',h2⟩

/-- Every operation. -/
theorem op_sim (hm : CsMono cs) (hcf : CallSim cf cs) {op : LOp} (H : HS lo w φ vh lh) (E : ES w φ lh env lenv) (hE : opV cf lo op env vh = some (v,vh')) : OpResS cs lo w φ env lenv vh lh op d v vh' := by
  cases op with
  | mv => exact (sim_mv H E hE).s fun _ h => h
  | mvs => exact (sim_mvs H E hE).s fun _ h => h
  | pick => exact (sim_pick H E hE).s fun _ h => h
  | alloc => exact (sim_alloc H E hE).s fun _ h => h
  | box => exact (sim_box H E hE).s fun _ h => h
  | build => exact (sim_build H E hE).s fun _ h => h
  | bslice => exact (sim_bslice H E hE).s fun _ h => h
  | load => exact (sim_load H E hE).s fun _ h => h
  | store => exact (sim_store H E hE).s fun _ h => h
  | nilchk => exact (sim_nilchk H E hE).s fun _ h => h
  | bin => exact (sim_bin H E hE).s fun _ h => h
  | eqv => exact (sim_eqv H E hE).s fun _ h => h
  | un => exact (sim_un H E hE).s fun _ h => h
  | conv => exact (sim_conv H E hE).s fun _ h => h
  | b2s => exact (sim_b2s H E hE).s fun _ h => h
  | s2b => exact (sim_s2b H E hE).s fun _ h => h
  | slc => exact (sim_slc H E hE).s fun _ h => h
  | slcA => exact (sim_slcA H E hE).s fun _ h => h
  | fieldAddr => exact (sim_fieldAddr H E hE).s fun _ h => h
  | field => exact (sim_field H E hE).s fun _ h => h
  | indexAddr => exact (sim_indexAddr H E hE).s fun _ h => h
  | indexAddrA => exact (sim_indexAddrA H E hE).s fun _ h => h
  | index => exact (sim_index H E hE).s fun _ h => h
  | indexA => exact (sim_indexA H E hE).s fun _ h => h
  | extract => exact (sim_extract H E hE).s fun _ h => h
  | lenS => exact (sim_lenS H E hE).s fun _ h => h
  | lenL => exact (sim_lenL H E hE).s fun _ h => h
  | lenM => exact (sim_lenM H E hE).s fun _ h => h
  | lenC => exact (sim_lenC H E hE).s fun _ h => h
  | min2 xs => exact (sim_mm (b := false) rfl H E hE).s fun _ h => h
  | max2 xs => exact (sim_mm (b := true) rfl H E hE).s fun _ h => h
  | append => exact (sim_append H E hE).s fun _ h => h
  | copy => exact (sim_copy H E hE).s fun _ h => h
  | make => exact (sim_make H E hE).s fun _ h => h
  | mkmap => exact (sim_mkmap H E hE).s fun _ h => h
  | lookup => exact (sim_lookup H E hE).s fun _ h => h
  | update => exact (sim_update H E hE).s fun _ h => h
  | mkfunc => exact (sim_mkfunc H E hE).s fun _ h => h
  | call pu f args =>
    simp only [opV] at hE
    split at hE
    · split at hE
      case h_2 => cases hE
      rename_i v1 h1 hc
      split at hE
      case isFalse => cases hE
      rename_i hlow
      simp only [Option.some.injEq,Prod.mk.injEq] at hE
      obtain ⟨rfl,rfl⟩ := hE
      exact sim_callpu hm hcf rfl rfl (fun _ h => h) H E (nrmL_rv _ _ (E.args args)) hlow.1 hlow.2 hc
    · exact sim_call hm hcf rfl rfl (fun _ h => h) H E (nrmL_rv _ _ (E.args args)) hE
  | callv f args =>
    simp only [opV] at hE
    split at hE
    case h_2 => cases hE
    rename_i g caps hf
    have h := E.x f
    rw [hf] at h
    generalize hl : f.ev lenv = l at h
    cases h with
    | func _ _ ls hll hh =>
      exact sim_call hm hcf rfl rfl (fun _ h => by simp only [opS,hl]; exact h) H E (nrmL_rv _ _ ((E.args args).append ⟨hll,hh⟩)) hE
  | ext => exact (sim_ext H E hE).s fun _ h => h
  | rewr => exact (sim_rewr H E hE).s fun _ h => h
  | concat => exact (sim_concat H E hE).s fun _ h => h
  | capL => exact (sim_capL H E hE).s fun _ h => h
  | appendZ => simp [opV] at hE
  | stuck => simp [opV] at hE
end
end Vg
