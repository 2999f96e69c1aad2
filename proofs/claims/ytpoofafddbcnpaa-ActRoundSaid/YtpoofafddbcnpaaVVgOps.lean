/- Operations: what the machine of values does,the logical machine does. -/
import Derived.Test.YtpoofafddbcnpaaVVgRel
namespace Vg
open Go Lg
set_option linter.unusedSimpArgs false
set_option linter.unusedVariables false
set_option maxHeartbeats 1000000

def CallSim (cf : VCall) (cs : CallS) : Prop := ∀ lo f args vh v vh',cf lo f args vh = some (v,vh') → ∀ w φ largs lh d,HS lo w φ vh lh → RVs w φ lh args largs →
  cs f largs lh fun l lh' => ∃ w' φ',Fr w lh w' lh' ∧ (∀ i,SameT (· = .env i) w lh w' lh') ∧ PExt φ φ' ∧ HS lo w' φ' vh' lh' ∧ RV w' φ' lh' v l ∧ Tok w' lh' (.env d) v l

def OpRes (lcf : CallF) (lo : Nat) (w : Own) (φ : List Nat) (env : VEnv) (lenv : Env) (lh : Heap) (op : LOp) (d : Nat) (v : VV) (vh' : VHeap) : Prop :=
  ∃ l lh' w' φ',opE lcf 0 op lenv lh = some (l,lh') ∧ Fr w lh w' lh' ∧ PExt φ φ' ∧ HS lo w' φ' vh' lh' ∧ ES w' φ' lh' (strip op env) lenv ∧ RV w' φ' lh' v l ∧ Tok w' lh' (.env d) v l

def OpResP (lcf : CallF) (lo : Nat) (w : Own) (φ : List Nat) (env : VEnv) (lenv : Env) (vh : VHeap) (lh : Heap) (op : LOp) (d : Nat) (v : VV) (vh' : VHeap) : Prop :=
  ∃ l lh' w' φ',opE lcf 0 op lenv lh = some (l,lh') ∧ Fr w lh w' lh' ∧ PExt φ φ' ∧ HS lo w' φ' vh' lh' ∧ ES w' φ' lh' (post op env vh) lenv ∧ RV w' φ' lh' v l ∧ Tok w' lh' (.env d) v l
theorem post_eq {op : LOp} (hm : isStore op = false) (env : VEnv) (h : VHeap) : post op env h = strip op env := by
  cases op <;> first | rfl | cases hm

section
variable {cf : VCall} {lcf : CallF} {lo : Nat} {w : Own} {φ : List Nat} {env : VEnv} {lenv : Env} {vh vh' : VHeap} {lh : Heap} {d : Nat} {v : VV}

theorem ES.x (E : ES w φ lh env lenv) (x : X) : RV w φ lh (vr env x) (x.ev lenv) := by
  cases x with
  | c c => exact ofLV_rv w φ lh c
  | t n =>
    simp only [vr,X.ev,List.getD_eq_getElem?_getD]
    cases h : env[n]? with
    | none => exact .undef _
    | some v => obtain ⟨l,hl,hr⟩ := E.rvs.get h; rw [hl]; exact hr
theorem ES.tokx (E : ES w φ lh env lenv) (n : Nat) : Tok w lh (.env n) (vr env (.t n)) (X.ev lenv (.t n)) := by
  simp only [vr,X.ev,List.getD_eq_getElem?_getD]
  cases h : env[n]? with
  | none => exact Tok.no fun r hr => by cases hr
  | some v => obtain ⟨l,hl⟩ := getElem?_lists E.len h; rw [hl]; exact (E.get n v l h hl).2
theorem ES.xs (E : ES w φ lh env lenv) (x : X) : RV w φ lh (vs env x) (x.ev lenv) := (E.x x).sh
theorem vs_ne (env : VEnv) (x : X) : ∀ r,vs env x ≠ .list .o r := sh_ne _
theorem ES.args (E : ES w φ lh env lenv) (xs : List X) : RVs w φ lh (xs.map (vs env)) (xs.map (X.ev lenv)) := by
  refine ⟨by simp,fun i v l hv hl => ?_⟩
  rw [List.getElem?_map] at hv hl
  obtain ⟨x,hx,rfl⟩ := Option.map_eq_some_iff.1 hv
  rw [hx] at hl; cases hl
  exact E.xs x

/-- Nothing but a value. -/
theorem OpRes.val {op : LOp} {l : LV} (H : HS lo w φ vh lh) (E : ES w φ lh env lenv) (hs : loses op = none) (hE : opE lcf 0 op lenv lh = some (l,lh)) (hr : RV w φ lh v l) (hv : ∀ r,v ≠ .list .o r) : OpRes lcf lo w φ env lenv lh op d v vh :=
  ⟨l,lh,w,φ,hE,Fr.refl _ _,PExt.refl _,H,by unfold strip; rw [hs]; exact E,hr,Tok.no hv⟩

/-- The right to append goes from one holder to another. -/
theorem Tok.move {o1 o2 : Owner} {v : VV} {l : LV} (h : Tok w lh o1 v l) (hn : ∀ b,lh.length ≤ b → w b = none) (ho : o1 ≠ .ext) : ∃ w' : Own,Fr w lh w' lh ∧ (∀ b x,x ≠ o1 → w b = some x → w' b = some x) ∧ Tok w' lh o2 v l ∧ ∀ b,lh.length ≤ b → w' b = none := by
  by_cases hv : ∃ r,v = .list .o r
  · obtain ⟨r,rfl⟩ := hv
    rcases h r rfl with h | h | ⟨n,off,len,es,lcs,hl,h1,h2,h3,h4⟩
    · exact ⟨w,Fr.refl _ _,fun _ _ _ h => h,fun r _ => .inl h,hn⟩
    · exact ⟨w,Fr.refl _ _,fun _ _ _ h => h,fun r _ => .inr (.inl h),hn⟩
    · refine ⟨fun b => if b = n + 1 then some o2 else w b,⟨Nat.le_refl _,fun b _ hb => ⟨?_,rfl⟩,fun b _ hb => ⟨?_,rfl⟩⟩,fun b x hx hb => ?_,fun r hr => .inr (.inr ⟨n,off,len,es,lcs,hl,h1,h2,by simp,by cases hr; exact h4⟩),fun b hb => ?_⟩
      · by_cases e : b = n + 1
        · subst e; rw [h3] at hb; cases hb
        · simp only [e,if_false]; exact hb
      · by_cases e : b = n + 1
        · subst e; rw [h3] at hb; cases hb; exact absurd rfl ho
        · simp only [e,if_false]; exact hb
      · by_cases e : b = n + 1
        · subst e; rw [h3] at hb; cases hb; exact absurd rfl hx
        · simp only [e,if_false]; exact hb
      · have : b ≠ n + 1 := by have := lt_of_getElem? h2; omega
        simp only [this,if_false]; exact hn b hb
  · exact ⟨w,Fr.refl _ _,fun _ _ _ h => h,Tok.no fun r hr => hv ⟨r,hr⟩,hn⟩

theorem Same.of_keep {w' : Own} {P : Owner → Prop} {o1 : Owner} (h : ∀ b x,x ≠ o1 → w b = some x → w' b = some x) (hp : ¬ P o1) : Same P w lh w' lh :=
  fun b x _ hb hx => ⟨h b x (fun e => hp (e ▸ hx)) hb,rfl⟩

/-- A slot loses its right. -/
theorem ES.strip {w' : Own} (E : ES w φ lh env lenv) {n : Nat} (fr : Fr w lh w' lh) (h : ∀ b x,x ≠ .env n → w b = some x → w' b = some x) : ES w' φ lh (env.set n (env.getD n .undef).sh) lenv := by
  refine ⟨by simp [E.len],fun i v l hv hl => ?_⟩
  rw [List.getElem?_set] at hv
  split at hv
  · rename_i e
    subst e
    split at hv
    · cases hv
      refine ⟨?_,Tok.no (sh_ne _)⟩
      obtain ⟨v0,hv0⟩ := getElem?_lists E.len.symm hl
      rw [List.getD_eq_getElem?_getD,hv0]
      exact ((E.get n v0 l hv0 hl).1.mono (PExt.refl _) fr).sh
    · cases hv
  · rename_i e
    have := E.get i v l hv hl
    exact ⟨this.1.mono (PExt.refl _) fr,this.2.mono ⟨φ,this.1⟩ fr (Same.of_keep h fun x => e (by cases x; rfl))⟩

theorem sim_mv {m : Bool} {x : X} (H : HS lo w φ vh lh) (E : ES w φ lh env lenv) (hE : opV cf lo (.mv m x) env vh = some (v,vh')) : OpRes lcf lo w φ env lenv lh (.mv m x) d v vh' := by
  simp only [opV,Option.some.injEq,Prod.mk.injEq] at hE
  obtain ⟨rfl,rfl⟩ := hE
  cases m with
  | false => exact OpRes.val H E (by cases x <;> rfl) rfl (by simpa using E.xs x) (by simpa using vs_ne env x)
  | true =>
    cases x with
    | c c =>
      refine ⟨_,lh,w,φ,rfl,Fr.refl _ _,PExt.refl _,H,E,(E.x (.c c)).ow,Tok.ow (E.x (.c c)) (Tok.no (ofLV_ne c))⟩
    | t n =>
      obtain ⟨w',fr,hk,ht,hn⟩ := (E.tokx n).move (o2 := .env d) H.new (by simp)
      refine ⟨_,lh,w',φ,rfl,fr,PExt.refl _,H.mono fr (fun m => Same.of_keep hk fun h => h) hn,E.strip fr hk,?_,?_⟩
      · exact ((E.x (.t n)).mono (PExt.refl _) fr).ow
      · exact Tok.ow ((E.x (.t n)).mono (PExt.refl _) fr) ht

/-- An owner more,of a block that is new. -/
def own1 (w : Own) (b : Nat) (o : Owner) : Own := fun x => if x = b then some o else w x
theorem own1_fr {b : Nat} {o : Owner} {x : List LBlk} (hb : lh.length ≤ b) : Fr w lh (own1 w b o) (lh ++ x) :=
  ⟨by simp,fun n hn hw => ⟨by unfold own1; rw [if_neg (by omega)]; exact hw,List.getElem?_append_left hn⟩,fun n hn hw => ⟨by unfold own1; rw [if_neg (by omega)]; exact hw,List.getElem?_append_left hn⟩⟩
theorem own1_same {b : Nat} {o : Owner} {x : List LBlk} {P : Owner → Prop} (hb : lh.length ≤ b) : Same P w lh (own1 w b o) (lh ++ x) :=
  fun n y hn hw _ => ⟨by unfold own1; rw [if_neg (by omega)]; exact hw,List.getElem?_append_left hn⟩
theorem fr_app {x : List LBlk} : Fr w lh w (lh ++ x) := ⟨by simp,fun n hn hw => ⟨hw,List.getElem?_append_left hn⟩,fun n hn hw => ⟨hw,List.getElem?_append_left hn⟩⟩
theorem same_app {x : List LBlk} {P : Owner → Prop} : Same P w lh w (lh ++ x) := fun n y hn hw _ => ⟨hw,List.getElem?_append_left hn⟩

theorem ow_tok {cs : List VV} {lcs : List LV} {o : Nat → Owner} {φ : List Nat} (h : RVs w φ lh cs lcs) : ∀ (i : Nat) (v : VV) (l : LV),(cs.map fun c => c.sh.ow)[i]? = some v → lcs[i]? = some l → Tok w lh (o i) v l := by
  intro i v l hv hl
  rw [List.getElem?_map] at hv
  obtain ⟨c,hc,rfl⟩ := Option.map_eq_some_iff.1 hv
  exact Tok.ow (h.2 i c l hc hl).sh (Tok.no (sh_ne _))
theorem ow_rvs {cs : List VV} {lcs : List LV} {φ : List Nat} (h : RVs w φ lh cs lcs) : RVs w φ lh (cs.map fun c => c.sh.ow) lcs := h.map fun v l h => h.sh.ow
theorem ow_low {cs : List VV} {k : Nat} (h : lowL k cs = true) : lowL k (cs.map fun c => c.sh.ow) = true := lowL_of fun v hv => by
  obtain ⟨c,hc,rfl⟩ := List.mem_map.1 hv
  rw [low_ow,low_sh]; exact lowL_mem h c hc
theorem ofLVs_sh (zs : List LV) : (ofLVs zs).map VV.ow = (ofLVs zs).map fun c => c.sh.ow := by
  induction zs with
  | nil => rfl
  | cons z zs ih =>
    simp only [ofLVs,List.map_cons,ih]
    congr 2
    have := ofLV_ne z
    unfold VV.sh
    split
    · rename_i e; exact absurd e (this _)
    · rfl

/-- A new block of cells. -/
theorem new_cells {op : LOp} {cs : List VV} {lcs : List LV} {l : LV} (H : HS lo w φ vh lh) (E : ES w φ lh env lenv) (hs : loses op = none) (hE : opE lcf 0 op lenv lh = some (l,lh ++ [.cells true lcs])) (hr : RVs w φ lh cs lcs)
    (hv : ∀ w' φ' lh',φ'[vh.length]? = some lh.length → RV w' φ' lh' v l) (hvo : ∀ r,v ≠ .list .o r) : OpRes lcf lo w φ env lenv lh op d v (vh ++ [.cells true (cs.map fun c => c.sh.ow)]) := by
  have fr := own1_fr (w := w) (lh := lh) (o := .blk vh.length) (x := [.cells true lcs]) (Nat.le_refl _)
  have hr' := hr.mono (PExt.app φ [lh.length]) fr
  refine ⟨l,_,own1 w lh.length (.blk vh.length),φ ++ [lh.length],hE,fr,PExt.app _ _,H.push fr (fun m _ => own1_same (Nat.le_refl _)) ?_ (fun b hb => ?_),?_,hv _ _ _ (by rw [← H.len]; exact List.getElem?_concat_length),Tok.no hvo⟩
  · refine ⟨true,lcs,List.getElem?_concat_length,ow_rvs hr',ow_low (lowL_mono (by have := H.len; omega) _ hr.low),?_⟩
    rw [if_pos ⟨rfl,H.lol⟩]
    exact ⟨rfl,by simp [own1],ow_tok hr'⟩
  · simp only [List.length_append,List.length_singleton] at hb
    unfold own1; rw [if_neg (by omega)]; exact H.new b (by omega)
  · unfold strip; rw [hs]
    exact E.mono (PExt.app _ _) fr fun i => own1_same (Nat.le_refl _)
end
end Vg
