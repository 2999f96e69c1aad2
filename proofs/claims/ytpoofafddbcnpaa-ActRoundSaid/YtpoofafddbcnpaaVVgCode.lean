/- Code and calls: what the machine of values comes to,the logical machine comes to. -/
import Derived.Test.YtpoofafddbcnpaaVVgAny
namespace Vg
open Go Lg
set_option linter.unusedSimpArgs false
set_option linter.unusedVariables false
set_option maxHeartbeats 1000000
section
variable {cf : VCall} {cs : CallS} {lo : Nat} {w : Own} {φ : List Nat} {env env' : VEnv} {lenv : Env} {vh vh' : VHeap} {lh : Heap}

theorem ES.put (E : ES w φ lh env lenv) {v : VV} {l : LV} (hr : RV w φ lh v l) (o : Option Nat) (ht : Tok w lh (.env (o.getD 0)) v l) : ES w φ lh (putV env o v) (putE lenv o l) := by
  cases o with
  | none => exact E
  | some d =>
    refine ⟨by simp [putV,putE,E.len],fun i v' l' hv hl => ?_⟩
    simp only [putV,putE] at hv hl
    rw [List.getElem?_set] at hv hl
    split at hv
    · rename_i e
      subst e
      rw [if_pos rfl] at hl
      split at hv
      · split at hl
        · cases hv; cases hl; exact ⟨hr,ht⟩
        · cases hl
      · cases hv
    · rename_i e
      rw [if_neg e] at hl
      exact E.get i v' l' hv hl

def StepRes (lo : Nat) (w : Own) (φ : List Nat) (lh : Heap) (env' : VEnv) (vh' : VHeap) (lenv' : Env) (lh' : Heap) : Prop :=
  ∃ w' φ',Fr w lh w' lh' ∧ PExt φ φ' ∧ HS lo w' φ' vh' lh' ∧ ES w' φ' lh' env' lenv'

theorem opS_mono (hm : CsMono cs) {op : LOp} {Q Q' : LV → Heap → Prop} (hq : ∀ v h,Q v h → Q' v h) (h : opS cs op lenv lh Q) : opS cs op lenv lh Q' := by
  cases op <;> simp only [opS] at h ⊢ <;> first
    | exact hm _ _ _ _ _ hq h
    | (obtain ⟨v,h',h1,h2⟩ := h; exact ⟨v,h',h1,hq v h' h2⟩)
    | skip
  split at h
  · exact hm _ _ _ _ _ hq h
  · exact h.elim
theorem operS_mono (hm : CsMono cs) {o : LOper} {Q Q' : Env → Heap → Prop} (hq : ∀ e h,Q e h → Q' e h) (h : operS cs o lenv lh Q) : operS cs o lenv lh Q' := by
  unfold operS at h ⊢
  split at h
  · exact opS_mono hm (fun v h' => hq _ h') h
  · split at h
    · split at h
      · rename_i hb; rw [if_pos hb]; exact opS_mono hm (fun v h' => hq _ h') h
      · rename_i hb; rw [if_neg hb]; exact hq _ _ h
    · exact hq _ _ h
    · exact h.elim
theorem opsS_mono (hm : CsMono cs) {Q Q' : Env → Heap → Prop} (hq : ∀ e h,Q e h → Q' e h) : ∀ (l : List LOper) (lenv : Env) (lh : Heap),opsS cs l lenv lh Q → opsS cs l lenv lh Q'
  | [],_,_,h => hq _ _ h
  | o :: r,lenv,lh,h => operS_mono hm (fun e h' => opsS_mono hm hq r e h') h
theorem dopsS_mono (hm : CsMono cs) {bs : List Nat} {l : List LOper} {Q Q' : Env → Heap → Prop} (hq : ∀ e h,Q e h → Q' e h) : ∀ (n : Nat) (done : Nat → Bool) (lenv : Env) (lh : Heap),dopsS cs bs l Q n done lenv lh → dopsS cs bs l Q' n done lenv lh
  | 0,_,_,_,h => fun ha => hq _ _ (h ha)
  | n + 1,done,lenv,lh,h => ⟨fun ha => hq _ _ (h.1 ha),fun i o ho hd hb => operS_mono hm (fun e h' => dopsS_mono hm hq n _ e h') (h.2 i o ho hd hb)⟩
theorem iterS_mono {b b' : Env → Heap → (Out → Env → Heap → Prop) → Prop} (hb : ∀ e h Q Q',(∀ o e h,Q o e h → Q' o e h) → b e h Q → b' e h Q') {Q Q' : Out → Env → Heap → Prop} (hq : ∀ o e h,Q o e h → Q' o e h) : ∀ (k : Nat) (lenv : Env) (lh : Heap),iterS b k lenv lh Q → iterS b' k lenv lh Q'
  | 0,_,_,h => h
  | k + 1,lenv,lh,h => by
    simp only [iterS] at h ⊢
    refine hb _ _ _ _ ?_ h
    intro o e h' hh
    cases o with
    | norm => exact iterS_mono hb hq k e h' hh
    | exit j => exact hq _ _ _ hh
    | ret => exact hq _ _ _ hh
theorem codeS_mono (hm : CsMono cs) {K : Nat} : ∀ (c : LCode) (lenv : Env) (lh : Heap) (Q Q' : Out → Env → Heap → Prop),(∀ o e h,Q o e h → Q' o e h) → codeS cs K c lenv lh Q → codeS cs K c lenv lh Q' := by
  intro c
  induction c with
  | skip => intro lenv lh Q Q' hq h; exact hq _ _ _ h
  | exit id => intro lenv lh Q Q' hq h; exact hq _ _ _ h
  | ret => intro lenv lh Q Q' hq h; exact hq _ _ _ h
  | ops l => intro lenv lh Q Q' hq h; exact opsS_mono hm (fun e h' => hq _ e h') l lenv lh h
  | dops bs l => intro lenv lh Q Q' hq h; exact dopsS_mono hm (fun e h' => hq _ e h') _ _ lenv lh h
  | seq a b iha ihb =>
    intro lenv lh Q Q' hq h
    refine iha lenv lh _ _ ?_ h
    intro o e h' hh
    cases o with
    | norm => exact ihb e h' Q Q' hq hh
    | exit j => exact hq _ _ _ hh
    | ret => exact hq _ _ _ hh
  | cond c a b iha ihb =>
    intro lenv lh Q Q' hq h
    simp only [codeS] at h ⊢
    split at h
    case h_2 => exact h.elim
    split at h
    · rename_i ht; rw [if_pos ht]; exact iha lenv lh Q Q' hq h
    · rename_i ht; rw [if_neg ht]; exact ihb lenv lh Q Q' hq h
  | block id c ih =>
    intro lenv lh Q Q' hq h
    refine ih lenv lh _ _ ?_ h
    intro o e h' hh
    cases o with
    | norm => exact hq _ _ _ hh
    | ret => exact hq _ _ _ hh
    | exit j =>
      simp only at hh ⊢
      split at hh
      · rename_i e; rw [if_pos e]; exact hq _ _ _ hh
      · rename_i e; rw [if_neg e]; exact hq _ _ _ hh
  | loop keep c ih =>
    intro lenv lh Q Q' hq h
    exact iterS_mono (fun e h Q Q' hq hh => ih (keepE keep e) h Q Q' hq hh) hq K lenv lh h
theorem callS_mono (p : LProg) : ∀ K,CsMono (callS p K)
  | 0 => fun f args h Q Q' hq hh => hh
  | K + 1 => fun f args h Q Q' hq hh => by
    simp only [callS] at hh ⊢
    split at hh
    case h_1 => exact hh.elim
    obtain ⟨h1,h2⟩ := hh
    refine ⟨h1,codeS_mono (callS_mono p K) _ _ _ _ _ ?_ h2⟩
    rintro o e h' ⟨h3,vs,h4,h5⟩
    exact ⟨h3,vs,h4,hq _ _ h5⟩

theorem oper_sim (hm : CsMono cs) (hcf : CallSim cf cs) {o : LOper} (H : HS lo w φ vh lh) (E : ES w φ lh env lenv) (hE : operV cf lo o env vh = some (env',vh')) : operS cs o lenv lh fun lenv' lh' => StepRes lo w φ lh env' vh' lenv' lh' := by
  have one : ∀ {env' vh'},(match opV cf lo o.op env vh with
      | some (v,h') => some (putV (post o.op env vh) o.dst v,h')
      | none => none) = some (env',vh') → opS cs o.op lenv lh fun v h' => StepRes lo w φ lh env' vh' (putE lenv o.dst v) h' := by
    intro env' vh' h
    split at h
    case h_2 => cases h
    rename_i v h' hv
    simp only [Option.some.injEq,Prod.mk.injEq] at h
    obtain ⟨rfl,rfl⟩ := h
    refine opS_mono hm ?_ (op_sim (d := o.dst.getD 0) hm hcf H E hv)
    rintro l lh' ⟨w',φ',h2,h3,h4,h5,h6,h7⟩
    exact ⟨w',φ',h2,h3,h4,h5.put h6 _ h7⟩
  unfold operV at hE
  unfold operS
  cases hg : o.guard with
  | none => rw [hg] at hE; exact one hE
  | some g =>
    obtain ⟨g,want⟩ := g
    rw [hg] at hE
    simp only at hE ⊢
    have hx := E.x (.t g)
    simp only [vr,X.ev] at hx
    split at hE
    · rename_i b hb
      rw [hb] at hx
      generalize hl : lenv.getD g .undef = l at hx
      cases hx
      simp only
      split at hE
      · rename_i hw; rw [if_pos hw]; exact one hE
      · rename_i hw
        rw [if_neg hw]
        simp only [Option.some.injEq,Prod.mk.injEq] at hE
        obtain ⟨rfl,rfl⟩ := hE
        exact ⟨w,φ,Fr.refl _ _,PExt.refl _,H,E.put RVs.nil.tup _ (Tok.no fun r hr => by cases hr)⟩
    · rename_i vs hb
      rw [hb] at hx
      generalize hl : lenv.getD g .undef = l at hx
      cases hx
      simp only [Option.some.injEq,Prod.mk.injEq] at hE
      obtain ⟨rfl,rfl⟩ := hE
      exact ⟨w,φ,Fr.refl _ _,PExt.refl _,H,E.put RVs.nil.tup _ (Tok.no fun r hr => by cases hr)⟩
    · cases hE

theorem StepRes.trans {env1 env2 : VEnv} {vh1 vh2 : VHeap} {lenv2 : Env} {lh1 lh2 : Heap} {w1 : Own} {φ1 : List Nat} (f : Fr w lh w1 lh1) (p : PExt φ φ1) (k : StepRes lo w1 φ1 lh1 env2 vh2 lenv2 lh2) : StepRes lo w φ lh env2 vh2 lenv2 lh2 := by
  obtain ⟨w',φ',h1,h2,h3,h4⟩ := k
  exact ⟨w',φ',f.trans h1,p.trans h2,h3,h4⟩

theorem ops_sim (hm : CsMono cs) (hcf : CallSim cf cs) : ∀ (l : List LOper) (w : Own) (φ : List Nat) (env : VEnv) (lenv : Env) (vh : VHeap) (lh : Heap) (env' : VEnv) (vh' : VHeap),HS lo w φ vh lh → ES w φ lh env lenv → opsV cf lo l env vh = some (env',vh') → opsS cs l lenv lh fun lenv' lh' => StepRes lo w φ lh env' vh' lenv' lh'
  | [],w,φ,env,lenv,vh,lh,env',vh',H,E,hE => by
    simp only [opsV,Option.some.injEq,Prod.mk.injEq] at hE
    obtain ⟨rfl,rfl⟩ := hE
    exact ⟨w,φ,Fr.refl _ _,PExt.refl _,H,E⟩
  | o :: r,w,φ,env,lenv,vh,lh,env',vh',H,E,hE => by
    simp only [opsV] at hE
    split at hE
    case h_2 => cases hE
    rename_i env1 vh1 h1
    refine operS_mono hm ?_ (oper_sim hm hcf H E h1)
    rintro lenv1 lh1 ⟨w1,φ1,h3,h4,h5,h6⟩
    exact opsS_mono hm (fun _ _ h => StepRes.trans (env1 := env1) (vh1 := vh1) h3 h4 h) r _ _ (ops_sim hm hcf r w1 φ1 env1 lenv1 vh1 lh1 env' vh' h5 h6 hE)

theorem dops_sim (hm : CsMono cs) (hcf : CallSim cf cs) {bs : List Nat} {l : List LOper} {es : Nat → VEnv} {hs : Nat → VHeap} (hd : Ord cf lo (befR bs) l es hs) (hst : ∀ (i : Nat) (o : LOper),l[i]? = some o → operV cf lo o (es i) (hs i) = some (es (i + 1),hs (i + 1))) :
    ∀ (n : Nat) (done : Nat → Bool) (w : Own) (φ : List Nat) (env : VEnv) (lenv : Env) (vh : VHeap) (lh : Heap),DI l (befR bs) es hs done env vh → HS lo w φ vh lh → ES w φ lh env lenv → dopsS cs bs l (fun lenv' lh' => StepRes lo w φ lh (es l.length) (hs l.length) lenv' lh') n done lenv lh := by
  have fin : ∀ {done : Nat → Bool} {w : Own} {φ : List Nat} {env : VEnv} {lenv : Env} {vh : VHeap} {lh : Heap},DI l (befR bs) es hs done env vh → HS lo w φ vh lh → ES w φ lh env lenv → (∀ i,i < l.length → done i = true) → StepRes lo w φ lh (es l.length) (hs l.length) lenv lh := by
    intro done w φ env lenv vh lh I H E ha
    obtain ⟨rfl,rfl⟩ := I.final hst ha
    exact ⟨w,φ,Fr.refl _ _,PExt.refl _,H,E⟩
  intro n
  induction n with
  | zero => intro done w φ env lenv vh lh I H E; exact fun ha => fin I H E ha
  | succ n ih =>
    intro done w φ env lenv vh lh I H E
    refine ⟨fun ha => fin I H E ha,fun i o ho hi hb => ?_⟩
    obtain ⟨env1,vh1,h1,I1⟩ := I.step hst hd ho hi hb
    refine operS_mono hm ?_ (oper_sim hm hcf H E h1)
    rintro lenv1 lh1 ⟨w1,φ1,h3,h4,h5,h6⟩
    exact dopsS_mono hm (fun _ _ h => StepRes.trans (env1 := env1) (vh1 := vh1) h3 h4 h) n _ _ _ (ih _ w1 φ1 env1 lenv1 vh1 lh1 I1 h5 h6)

/-- In an order of the listed ones with one edge more,the edge's foot done. -/
theorem dops_simP (hm : CsMono cs) (hcf : CallSim cf cs) {bs : List Nat} {l l' : List LOper} {R' : Nat → Nat → Bool} {f g : Nat → Nat} {c : Nat} {es : Nat → VEnv} {hs : Nat → VHeap} (hfg : ∀ k,f (g k) = k) (hgf : ∀ k,g (f k) = k)
    (hl : ∀ (i : Nat),l'[f i]? = l[i]?) (hlen : l'.length = l.length) (hg : ∀ k,k < l.length → f k < l.length) (hx : ∀ i k,R' k (f i) = true → (bs.getD i 0).testBit (g k) = true ∨ g k = c) (hd : Ord cf lo R' l' es hs) (hst : ∀ (i : Nat) (o : LOper),l'[i]? = some o → operV cf lo o (es i) (hs i) = some (es (i + 1),hs (i + 1))) :
    ∀ (n : Nat) (done : Nat → Bool) (w : Own) (φ : List Nat) (env : VEnv) (lenv : Env) (vh : VHeap) (lh : Heap),done c = true → DI l' R' es hs (fun k => done (g k)) env vh → HS lo w φ vh lh → ES w φ lh env lenv → dopsS cs bs l (fun lenv' lh' => StepRes lo w φ lh (es l.length) (hs l.length) lenv' lh') n done lenv lh := by
  have fin : ∀ {done : Nat → Bool} {w : Own} {φ : List Nat} {env : VEnv} {lenv : Env} {vh : VHeap} {lh : Heap},DI l' R' es hs (fun k => done (g k)) env vh → HS lo w φ vh lh → ES w φ lh env lenv → (∀ i,i < l.length → done i = true) → StepRes lo w φ lh (es l.length) (hs l.length) lenv lh := by
    intro done w φ env lenv vh lh I H E ha
    obtain ⟨rfl,rfl⟩ := I.final hst fun k hk => by
      refine ha (g k) ?_
      rcases Nat.lt_or_ge (g k) l.length with h | h
      · exact h
      · have h1 := hl (g k)
        rw [hfg,List.getElem?_eq_getElem hk,List.getElem?_eq_none h] at h1; cases h1
    rw [← hlen]
    exact ⟨w,φ,Fr.refl _ _,PExt.refl _,H,E⟩
  intro n
  induction n with
  | zero => intro done w φ env lenv vh lh _ I H E; exact fun ha => fin I H E ha
  | succ n ih =>
    intro done w φ env lenv vh lh hc I H E
    refine ⟨fun ha => fin I H E ha,fun i o ho hi hb => ?_⟩
    obtain ⟨env1,vh1,h1,I1⟩ := I.step hst hd (i := f i) (o := o) (by rw [hl]; exact ho) (by rw [hgf]; exact hi) fun k hk => by
      rcases hx i k hk with h | h
      · exact hb _ h
      · rw [h]; exact hc
    have e : (fun k => done (g k) || k == f i) = fun k => (done (g k) || g k == i) := by
      funext k
      have e1 : (k == f i) = (g k == i) := by
        by_cases hk : k = f i
        · subst hk; rw [hgf]; simp
        · have : g k ≠ i := fun e => hk (by rw [← e,hfg])
          rw [beq_eq_false_iff_ne.2 hk,beq_eq_false_iff_ne.2 this]
      rw [e1]
    rw [e] at I1
    refine operS_mono hm ?_ (oper_sim hm hcf H E h1)
    rintro lenv1 lh1 ⟨w1,φ1,h3,h4,h5,h6⟩
    exact dopsS_mono hm (fun _ _ h => StepRes.trans (env1 := env1) (vh1 := vh1) h3 h4 h) n _ _ _ (ih (fun j => done j || j == i) w1 φ1 env1 lenv1 vh1 lh1 (by simp [hc]) I1 h5 h6)
/-- Two operations in either order. -/
theorem dops_simX (hm : CsMono cs) (hcf : CallSim cf cs) {bs : List Nat} {l : List LOper} {a b : Nat} {es es' : Nat → VEnv} {hs hs' : Nat → VHeap} (hd : drawX bs l a b = true) (hst : ∀ (i : Nat) (o : LOper),l[i]? = some o → operV cf lo o (es i) (hs i) = some (es (i + 1),hs (i + 1)))
    (hst' : ∀ (i : Nat) (o : LOper),(moveTo a b l)[i]? = some o → operV cf lo o (es' i) (hs' i) = some (es' (i + 1),hs' (i + 1))) (he : es' l.length = es l.length) (hh : hs' l.length = hs l.length) :
    ∀ (n : Nat) (done : Nat → Bool) (w : Own) (φ : List Nat) (env : VEnv) (lenv : Env) (vh : VHeap) (lh : Heap),done a = false → done b = false → DI l (edgeR (befR bs) a b) es hs done env vh → DI (moveTo a b l) (fun j i => edgeR (befR bs) b a (ofN a b j) (ofN a b i)) es' hs' (fun k => done (ofN a b k)) env vh → HS lo w φ vh lh → ES w φ lh env lenv → dopsS cs bs l (fun lenv' lh' => StepRes lo w φ lh (es l.length) (hs l.length) lenv' lh') n done lenv lh := by
  obtain ⟨hab,hbl,hA,hB⟩ := drawX_Ord (cf := cf) (lo := lo) hd
  have hne : a ≠ b := by omega
  intro n
  induction n with
  | zero =>
    intro done w φ env lenv vh lh ha hb IA IB H E hall
    have := hall a (by omega)
    rw [ha] at this; cases this
  | succ n ih =>
    intro done w φ env lenv vh lh ha hb IA IB H E
    refine ⟨fun hall => ?_,fun i o ho hi hbf => ?_⟩
    · have := hall a (by omega)
      rw [ha] at this; cases this
    have stepA : i ≠ b → ∃ env1 vh1,operV cf lo o env vh = some (env1,vh1) ∧ DI l (edgeR (befR bs) a b) es hs (fun j => done j || j == i) env1 vh1 := fun hib =>
      IA.step hst (hA es hs) ho hi fun j hj => by
        simp only [edgeR,Bool.or_eq_true,Bool.and_eq_true,beq_iff_eq] at hj
        rcases hj with hj | ⟨_,e⟩
        · exact hbf j hj
        · exact absurd e hib
    have stepB : i ≠ a → ∃ env1 vh1,operV cf lo o env vh = some (env1,vh1) ∧ DI (moveTo a b l) (fun j i => edgeR (befR bs) b a (ofN a b j) (ofN a b i)) es' hs' (fun k => (done (ofN a b k) || ofN a b k == i)) env1 vh1 := fun hia => by
      obtain ⟨env1,vh1,h1,I1⟩ := IB.step hst' (hB es' hs') (i := toN a b i) (o := o) (by rw [moveTo_get hab hbl]; exact ho) (by rw [ofN_toN hab]; exact hi) fun k hk => by
        simp only [edgeR,ofN_toN hab,Bool.or_eq_true,Bool.and_eq_true,beq_iff_eq] at hk
        rcases hk with hk | ⟨_,e⟩
        · exact hbf _ hk
        · exact absurd e hia
      refine ⟨env1,vh1,h1,?_⟩
      have e : (fun k => done (ofN a b k) || k == toN a b i) = fun k => (done (ofN a b k) || ofN a b k == i) := by
        funext k
        have e1 : (k == toN a b i) = (ofN a b k == i) := by
          by_cases hk : k = toN a b i
          · subst hk; rw [ofN_toN hab]; simp
          · have : ofN a b k ≠ i := fun e => hk (by rw [← e,toN_ofN hab])
            rw [beq_eq_false_iff_ne.2 hk,beq_eq_false_iff_ne.2 this]
        rw [e1]
      rw [e] at I1
      exact I1
    by_cases hia : i = a
    · subst hia
      obtain ⟨env1,vh1,h1,I1⟩ := stepA hne
      refine operS_mono hm ?_ (oper_sim hm hcf H E h1)
      rintro lenv1 lh1 ⟨w1,φ1,h3,h4,h5,h6⟩
      exact dopsS_mono hm (fun _ _ h => StepRes.trans (env1 := env1) (vh1 := vh1) h3 h4 h) n _ _ _ (dops_simP hm hcf (f := id) (g := id) (c := i) (fun _ => rfl) (fun _ => rfl) (fun _ => rfl) rfl (fun _ h => h) (fun j k hk => by
        simp only [edgeR,id,Bool.or_eq_true,Bool.and_eq_true,beq_iff_eq] at hk
        exact hk.imp (fun h => h) (fun h => h.1)) (hA es hs) hst n (fun j => done j || j == i) w1 φ1 env1 lenv1 vh1 lh1 (by simp) I1 h5 h6)
    · by_cases hib : i = b
      · subst hib
        obtain ⟨env1,vh1,h1,I1⟩ := stepB hia
        refine operS_mono hm ?_ (oper_sim hm hcf H E h1)
        rintro lenv1 lh1 ⟨w1,φ1,h3,h4,h5,h6⟩
        have key := dops_simP hm hcf (bs := bs) (l := l) (f := toN a i) (g := ofN a i) (c := i) (toN_ofN hab) (ofN_toN hab) (moveTo_get hab hbl) (moveTo_len hab hbl) (fun k hk => by unfold toN; split <;> (try split) <;> omega) (fun j k hk => by
          simp only [edgeR,ofN_toN hab,Bool.or_eq_true,Bool.and_eq_true,beq_iff_eq] at hk
          exact hk.imp (fun h => h) (fun h => h.1)) (hB es' hs') hst' n (fun j => done j || j == i) w1 φ1 env1 lenv1 vh1 lh1 (by simp) I1 h5 h6
        rw [he,hh] at key
        exact dopsS_mono hm (fun _ _ h => StepRes.trans (env1 := env1) (vh1 := vh1) h3 h4 h) n _ _ _ key
      · obtain ⟨env1,vh1,h1,I1⟩ := stepA hib
        obtain ⟨env2,vh2,h2,I2⟩ := stepB hia
        rw [h1] at h2
        simp only [Option.some.injEq,Prod.mk.injEq] at h2
        obtain ⟨rfl,rfl⟩ := h2
        refine operS_mono hm ?_ (oper_sim hm hcf H E h1)
        rintro lenv1 lh1 ⟨w1,φ1,h3,h4,h5,h6⟩
        refine dopsS_mono hm (fun _ _ h => StepRes.trans (env1 := env1) (vh1 := vh1) h3 h4 h) n _ _ _ (ih (fun j => done j || j == i) w1 φ1 env1 lenv1 vh1 lh1 ?_ ?_ I1 I2 h5 h6)
        · simp only [ha,Bool.false_or,beq_eq_false_iff_ne]; exact fun e => hia e.symm
        · simp only [hb,Bool.false_or,beq_eq_false_iff_ne]; exact fun e => hib e.symm
/-- Two blocks made in either order. -/
theorem dops_simY (hm : CsMono cs) (hcf : CallSim cf cs) {bs : List Nat} {l : List LOper} {a b : Nat} {l' : List LOper} {f g : Nat → Nat} {es es' : Nat → VEnv} {hs hs' : Nat → VHeap} (hab : a < b) (hbl : b < l.length) (hfg : ∀ k,f (g k) = k) (hgf : ∀ k,g (f k) = k) (hget : ∀ i : Nat,l'[f i]? = l[i]?) (hlen : l'.length = l.length) (hflt : ∀ k,k < l.length → f k < l.length) (hA : Ord cf lo (edgeR (befR bs) a b) l es hs) (hB : Ord cf lo (fun j i => edgeR (befR bs) b a (g j) (g i)) (l') es' hs') (hst : ∀ (i : Nat) (o : LOper),l[i]? = some o → operV cf lo o (es i) (hs i) = some (es (i + 1),hs (i + 1)))
    (hst' : ∀ (i : Nat) (o : LOper),(l')[i]? = some o → operV cf lo o (es' i) (hs' i) = some (es' (i + 1),hs' (i + 1))) {w0 : Own} {φ0 : List Nat} {lh0 : Heap} (hcv : ∀ lenv' lh',StepRes lo w0 φ0 lh0 (es' l.length) (hs' l.length) lenv' lh' → StepRes lo w0 φ0 lh0 (es l.length) (hs l.length) lenv' lh') :
    ∀ (n : Nat) (done : Nat → Bool) (w : Own) (φ : List Nat) (env : VEnv) (lenv : Env) (vh : VHeap) (lh : Heap),Fr w0 lh0 w lh → PExt φ0 φ → done a = false → done b = false → DI l (edgeR (befR bs) a b) es hs done env vh → DI (l') (fun j i => edgeR (befR bs) b a (g j) (g i)) es' hs' (fun k => done (g k)) env vh → HS lo w φ vh lh → ES w φ lh env lenv → dopsS cs bs l (fun lenv' lh' => StepRes lo w0 φ0 lh0 (es l.length) (hs l.length) lenv' lh') n done lenv lh := by
  have hne : a ≠ b := by omega
  intro n
  induction n with
  | zero =>
    intro done w φ env lenv vh lh F0 P0 ha hb IA IB H E hall
    have := hall a (by omega)
    rw [ha] at this; cases this
  | succ n ih =>
    intro done w φ env lenv vh lh F0 P0 ha hb IA IB H E
    refine ⟨fun hall => ?_,fun i o ho hi hbf => ?_⟩
    · have := hall a (by omega)
      rw [ha] at this; cases this
    have stepA : i ≠ b → ∃ env1 vh1,operV cf lo o env vh = some (env1,vh1) ∧ DI l (edgeR (befR bs) a b) es hs (fun j => done j || j == i) env1 vh1 := fun hib =>
      IA.step hst hA ho hi fun j hj => by
        simp only [edgeR,Bool.or_eq_true,Bool.and_eq_true,beq_iff_eq] at hj
        rcases hj with hj | ⟨_,e⟩
        · exact hbf j hj
        · exact absurd e hib
    have stepB : i ≠ a → ∃ env1 vh1,operV cf lo o env vh = some (env1,vh1) ∧ DI (l') (fun j i => edgeR (befR bs) b a (g j) (g i)) es' hs' (fun k => (done (g k) || g k == i)) env1 vh1 := fun hia => by
      obtain ⟨env1,vh1,h1,I1⟩ := IB.step hst' hB (i := f i) (o := o) (by rw [hget]; exact ho) (by rw [hgf]; exact hi) fun k hk => by
        simp only [edgeR,hgf,Bool.or_eq_true,Bool.and_eq_true,beq_iff_eq] at hk
        rcases hk with hk | ⟨_,e⟩
        · exact hbf _ hk
        · exact absurd e hia
      refine ⟨env1,vh1,h1,?_⟩
      have e : (fun k => done (g k) || k == f i) = fun k => (done (g k) || g k == i) := by
        funext k
        have e1 : (k == f i) = (g k == i) := by
          by_cases hk : k = f i
          · subst hk; rw [hgf]; simp
          · have : g k ≠ i := fun e => hk (by rw [← e,hfg])
            rw [beq_eq_false_iff_ne.2 hk,beq_eq_false_iff_ne.2 this]
        rw [e1]
      rw [e] at I1
      exact I1
    by_cases hia : i = a
    · subst hia
      obtain ⟨env1,vh1,h1,I1⟩ := stepA hne
      refine operS_mono hm ?_ (oper_sim hm hcf H E h1)
      rintro lenv1 lh1 ⟨w1,φ1,h3,h4,h5,h6⟩
      exact dopsS_mono hm (fun _ _ h => StepRes.trans (env1 := env1) (vh1 := vh1) (F0.trans h3) (P0.trans h4) h) n _ _ _ (dops_simP hm hcf (f := id) (g := id) (c := i) (fun _ => rfl) (fun _ => rfl) (fun _ => rfl) rfl (fun _ h => h) (fun j k hk => by
        simp only [edgeR,id,Bool.or_eq_true,Bool.and_eq_true,beq_iff_eq] at hk
        exact hk.imp (fun h => h) (fun h => h.1)) hA hst n (fun j => done j || j == i) w1 φ1 env1 lenv1 vh1 lh1 (by simp) I1 h5 h6)
    · by_cases hib : i = b
      · subst hib
        obtain ⟨env1,vh1,h1,I1⟩ := stepB hia
        refine operS_mono hm ?_ (oper_sim hm hcf H E h1)
        rintro lenv1 lh1 ⟨w1,φ1,h3,h4,h5,h6⟩
        have key := dops_simP hm hcf (bs := bs) (l := l) (f := f) (g := g) (c := i) hfg hgf hget hlen hflt (fun j k hk => by
          simp only [edgeR,hgf,Bool.or_eq_true,Bool.and_eq_true,beq_iff_eq] at hk
          exact hk.imp (fun h => h) (fun h => h.1)) hB hst' n (fun j => done j || j == i) w1 φ1 env1 lenv1 vh1 lh1 (by simp) I1 h5 h6
        exact dopsS_mono hm (fun _ _ h => hcv _ _ (StepRes.trans (env1 := env1) (vh1 := vh1) (F0.trans h3) (P0.trans h4) h)) n _ _ _ key
      · obtain ⟨env1,vh1,h1,I1⟩ := stepA hib
        obtain ⟨env2,vh2,h2,I2⟩ := stepB hia
        rw [h1] at h2
        simp only [Option.some.injEq,Prod.mk.injEq] at h2
        obtain ⟨rfl,rfl⟩ := h2
        refine operS_mono hm ?_ (oper_sim hm hcf H E h1)
        rintro lenv1 lh1 ⟨w1,φ1,h3,h4,h5,h6⟩
        refine ih (fun j => done j || j == i) w1 φ1 env1 lenv1 vh1 lh1 (F0.trans h3) (P0.trans h4) ?_ ?_ I1 I2 h5 h6
        · simp only [ha,Bool.false_or,beq_eq_false_iff_ne]; exact fun e => hia e.symm
        · simp only [hb,Bool.false_or,beq_eq_false_iff_ne]; exact fun e => hib e.symm

/-- The last two blocks exchanged: the same state of the logical machine. -/
theorem swap_res {w0 : Own} {φ0 : List Nat} {lh0 : Heap} {lenv' : Env} {lh' : Heap} {r r' : VEnv × VHeap} (hlo : lo ≤ φ0.length) (hs : swS φ0.length r r') (k : StepRes lo w0 φ0 lh0 r'.1 r'.2 lenv' lh') : StepRes lo w0 φ0 lh0 r.1 r.2 lenv' lh' := by
  obtain ⟨env,vh⟩ := r
  obtain ⟨env',vh'⟩ := r'
  simp only [swS] at hs k ⊢
  obtain ⟨hm,h2,he,hok,htk,hsw⟩ := hs
  obtain ⟨w',φ',F,P,H,E⟩ := k
  obtain ⟨n,hn⟩ : ∃ n,vh'.length - 2 = n := ⟨_,rfl⟩
  rw [hn] at hm he hok htk hsw
  have hlen' : vh'.length = n + 2 := by omega
  unfold swH at hsw
  split at hsw
  case h_2 => exact hsw.elim
  rename_i c1 c2 d1 d2 e1 e2
  obtain ⟨rfl,rfl,hd1,hd2⟩ := hsw
  have get' : ∀ j,vh'[n + j]? = [VBlk.cells true c2,.cells true c1][j]? := fun j => by rw [← e2,List.getElem?_drop]
  have get : ∀ j,vh[n + j]? = [VBlk.cells true c1,.cells true c2][j]? := fun j => by rw [← e1,List.getElem?_drop]
  have glow : ∀ j,j < n → vh[j]? = vh'[j]? := fun j hj => by
    have := congrArg (fun l => l[j]?) htk
    simpa [List.getElem?_take,hj] using this
  have hlen : vh.length = n + 2 := by
    have h3 := congrArg List.length e1
    have h4 := congrArg List.length htk
    simp only [List.length_drop,List.length_take,List.length_cons,List.length_nil] at h3 h4
    omega
  have hφ : φ'.length = n + 2 := by rw [H.len,hlen']
  obtain ⟨p1,hp1⟩ : ∃ p,φ'[n]? = some p := ⟨_,List.getElem?_eq_getElem (by omega)⟩
  obtain ⟨p2,hp2⟩ : ∃ p,φ'[n + 1]? = some p := ⟨_,List.getElem?_eq_getElem (by omega)⟩
  obtain ⟨rw1,ls1,hl1,hr1,_,hx1⟩ := H.blk n _ p1 (get' 0) hp1
  obtain ⟨rw2,ls2,hl2,hr2,_,hx2⟩ := H.blk (n + 1) _ p2 (get' 1) hp2
  rw [if_pos ⟨rfl,by omega⟩] at hx1 hx2
  obtain ⟨rfl,ho1,_⟩ := hx1
  obtain ⟨rfl,ho2,_⟩ := hx2
  have hne : p1 ≠ p2 := by rintro rfl; rw [ho1] at ho2; simp at ho2
  obtain ⟨w2,hw2⟩ : ∃ w2 : Own,w2 = fun b => if b = p1 then some (.blk (n + 1)) else if b = p2 then some (.blk n) else w' b := ⟨_,rfl⟩
  obtain ⟨φ2,hφ2⟩ : ∃ φ2 : List Nat,φ2 = (φ'.set n p2).set (n + 1) p1 := ⟨_,rfl⟩
  have w2p1 : w2 p1 = some (.blk (n + 1)) := by rw [hw2]; simp
  have hne' : p2 ≠ p1 := fun h => hne h.symm
  have w2p2 : w2 p2 = some (.blk n) := by rw [hw2]; simp [hne']
  have w2o : ∀ b o,w' b = some o → (∀ m,o ≠ .blk m) → w2 b = some o := fun b o hb ho => by
    have h1 : b ≠ p1 := by rintro rfl; rw [ho1] at hb; cases hb; exact ho _ rfl
    have h2 : b ≠ p2 := by rintro rfl; rw [ho2] at hb; cases hb; exact ho _ rfl
    rw [hw2]; simp only [h1,h2,if_false]; exact hb
  have w2n : ∀ b,w' b = none → w2 b = none := fun b hb => by
    have h1 : b ≠ p1 := by rintro rfl; rw [ho1] at hb; cases hb
    have h2 : b ≠ p2 := by rintro rfl; rw [ho2] at hb; cases hb
    rw [hw2]; simp only [h1,h2,if_false]; exact hb
  have w2b : ∀ b m,w' b = some (.blk m) → m < n → w2 b = some (.blk m) := fun b m hb hlt => by
    have h1 : b ≠ p1 := by rintro rfl; rw [ho1] at hb; cases hb; omega
    have h2 : b ≠ p2 := by rintro rfl; rw [ho2] at hb; cases hb; omega
    rw [hw2]; simp only [h1,h2,if_false]; exact hb
  have f2len : φ2.length = φ'.length := by rw [hφ2,List.length_set,List.length_set]
  have f2lo : ∀ j,j < n → φ2[j]? = φ'[j]? := fun j hj => by rw [hφ2,List.getElem?_set_ne (by omega),List.getElem?_set_ne (by omega)]
  have f2n : φ2[n]? = some p2 := by rw [hφ2,List.getElem?_set_ne (by omega),List.getElem?_set_self (by omega)]
  have f2n1 : φ2[n + 1]? = some p1 := by rw [hφ2,List.getElem?_set_self (by rw [List.length_set]; omega)]
  have fw : Fw w' lh' w2 lh' := fun b x hb _ hw => ⟨w2n b hw,hb⟩
  have low : ∀ j b,j < n → φ'[j]? = some b → φ2[j]? = some b := fun j b hj hb => by rw [f2lo j hj]; exact hb
  have tok : ∀ {o : Owner} {v : VV} {l : LV},(∀ m,o ≠ .blk m) → Tok w' lh' o v l → Tok w2 lh' o v l := fun ho ht r hv => by
    rcases ht r hv with h | h | ⟨n,off,len,es,lcs,a1,a2,a3,a4,a5⟩
    · exact .inl h
    · exact .inr (.inl h)
    · exact .inr (.inr ⟨n,off,len,es,lcs,a1,a2,a3,w2o _ _ a4 ho,a5⟩)
  have scRV : ∀ {cs : List VV} {ls : List LV},cs.all scalB = true → RVs w' φ' lh' cs ls → RVs w2 φ2 lh' cs ls := fun hs hr => by
    refine hr.tr (k := 0) (lowL_of fun v hv => ?_) (fun j b hj _ => absurd hj (Nat.not_lt_zero j)) fw
    have := List.all_eq_true.1 hs v hv
    cases v <;> first | rfl | cases this
  have scTok : ∀ {cs : List VV} {i : Nat} {v : VV} {l : LV} {o : Owner},cs.all scalB = true → cs[i]? = some v → Tok w2 lh' o v l := fun hs hv => Tok.no fun r hr => by
    have := List.all_eq_true.1 hs _ (List.mem_of_getElem? hv)
    rw [hr] at this; cases this
  have scLow : ∀ {cs : List VV} (k : Nat),cs.all scalB = true → lowL k cs = true := fun k hs => lowL_of fun v hv => by
    have := List.all_eq_true.1 hs v hv
    cases v <;> first | rfl | cases this
  refine ⟨w2,φ2,⟨F.le,fun b hb hw => ?_,fun b hb hw => ?_⟩,fun j b hj => ?_,⟨by rw [f2len,hφ,hlen],by omega,fun j b pb hb hpb => ?_,fun b hb => w2n b (H.new b hb)⟩,⟨?_,fun i v l hv hl => ?_⟩⟩
  · have := F.keep b hb hw; exact ⟨w2n b this.1,this.2⟩
  · have := F.ext b hb hw; exact ⟨w2o b _ this.1 (fun m h => by cases h),this.2⟩
  · rw [f2lo j (by have := lt_of_getElem? hj; omega)]; exact P j b hj
  · rcases Nat.lt_or_ge j n with hj | hj
    · rw [glow j hj] at hb
      rw [f2lo j hj] at hpb
      have B := H.blk j b pb hb hpb
      cases b with
      | dead => exact True.intro
      | cells rw cs =>
        obtain ⟨lrw,lcs,a1,a2,a3,a4⟩ := B
        refine ⟨lrw,lcs,a1,a2.tr a3 (fun q b hq => low q b (by omega)) fw,a3,?_⟩
        split
        · rename_i hc
          rw [if_pos hc] at a4
          exact ⟨a4.1,w2b _ _ a4.2.1 hj,fun i v l hv hl => tok (fun m h => by cases h) (a4.2.2 i v l hv hl)⟩
        · rename_i hc
          rw [if_neg hc] at a4
          exact a4.imp (w2n _) (fun h => w2o _ _ h (fun m h => by cases h))
      | map es =>
        obtain ⟨les,a1,a2,a3,a4⟩ := B
        refine ⟨les,a1,a2,fun i e le he hle => ?_,?_⟩
        · have := a3 i e le he hle
          exact ⟨this.1,this.2.1,this.2.2.1.tr this.2.2.2 (fun q b hq _ => absurd hq (Nat.not_lt_zero q)) fw,this.2.2.2⟩
        · split
          · rename_i hc
            rw [if_pos hc] at a4
            exact w2b _ _ a4 hj
          · rename_i hc
            rw [if_neg hc] at a4
            exact a4.imp (w2n _) (fun h => w2o _ _ h (fun m h => by cases h))
    · obtain ⟨q,rfl⟩ : ∃ q,j = n + q := ⟨j - n,by omega⟩
      match q with
      | 0 =>
        rw [get 0] at hb
        rw [Nat.add_zero,f2n] at hpb
        cases hb; cases hpb
        exact ⟨true,ls2,hl2,scRV hd2 hr2,scLow _ hd2,by rw [if_pos ⟨rfl,by omega⟩]; exact ⟨rfl,by rw [Nat.add_zero]; exact w2p2,fun i v l hv _ => scTok hd2 hv⟩⟩
      | 1 =>
        rw [get 1] at hb
        rw [f2n1] at hpb
        cases hb; cases hpb
        exact ⟨true,ls1,hl1,scRV hd1 hr1,scLow _ hd1,by rw [if_pos ⟨rfl,by omega⟩]; exact ⟨rfl,w2p1,fun i v l hv _ => scTok hd1 hv⟩⟩
      | q + 2 =>
        rw [get (q + 2)] at hb
        simp at hb
  · rw [he,List.length_map]; exact E.len
  · rw [he,List.getElem?_map] at hv
    cases hv' : env'[i]? with
    | none => rw [hv'] at hv; cases hv
    | some v' =>
      rw [hv'] at hv
      simp only [Option.map_some,Option.some.injEq] at hv
      subst hv
      obtain ⟨a1,a2⟩ := E.get i v' l hv' hl
      have hk := List.all_eq_true.1 hok v' (List.mem_of_getElem? hv')
      have other : swp n v' = v' → v'.low n = true → RV w2 φ2 lh' (swp n v') l ∧ Tok w2 lh' (.env i) (swp n v') l := fun h1 h2 => by
        rw [h1]; exact ⟨a1.tr h2 low fw,tok (fun m h => by cases h) a2⟩
      cases v' with
      | ptr q o =>
        simp only [okS,decide_eq_true_eq] at hk
        refine ⟨?_,Tok.no fun r h => by cases h⟩
        cases a1 with
        | ptr hq =>
          refine .ptr ?_
          by_cases c1 : q = n
          · subst c1; rw [if_pos rfl,f2n1]; rw [hp1] at hq; exact hq
          · rw [if_neg c1]
            by_cases c2 : q = n + 1
            · subst c2; rw [if_pos rfl,f2n]; rw [hp2] at hq; exact hq
            · rw [if_neg c2,f2lo q (by omega)]; exact hq
      | _ => exact other rfl hk


/-- Owners of dropped blocks,and of slots,hold nothing any more. -/
def dropO (k : Nat) : Option Owner → Option Owner
  | some (.blk n) => if n < k then some (.blk n) else none
  | some (.cell n i) => if n < k then some (.cell n i) else none
  | x => x
theorem dropO_ofBlk {k n : Nat} {x : Owner} (hx : ofBlk n x) (hn : n < k) : dropO k (some x) = some x := by
  cases x with
  | blk m => have : m = n := hx
             subst this; simp [dropO,hn]
  | cell m i => have : m = n := hx
                subst this; simp [dropO,hn]
  | env i => cases hx
  | ext => cases hx
theorem dropO_ge {k n : Nat} {x : Owner} (hx : ofBlk n x) (hn : k ≤ n) : dropO k (some x) = none := by
  cases x with
  | blk m => have : m = n := hx
             subst this; simp [dropO]; omega
  | cell m i => have : m = n := hx
                subst this; simp [dropO]; omega
  | env i => cases hx
  | ext => cases hx

/-- The heap's first blocks. -/
theorem HS.cut {k : Nat} (H : HS lo w φ vh lh) (hl : lo ≤ k) (hk : k ≤ vh.length) {w' : Own} (fr : Fw w lh w' lh) (hst : ∀ pb x,lh[pb]? = some x → (∀ m u,x ≠ .tok m u) → (w pb = none ∨ w pb = some .ext) → (w' pb = none ∨ w' pb = some .ext)) (hs : ∀ n,n < k → Same (ofBlk n) w lh w' lh) (hn : ∀ b,lh.length ≤ b → w' b = none) : HS lo w' (φ.take k) (vh.take k) lh := by
  have hφ : ∀ n m b,n ≤ m → n < k → φ[n]? = some b → (φ.take k)[n]? = some b := fun n m b _ h e => by rw [List.getElem?_take,if_pos h]; exact e
  refine ⟨by simp [H.len],by simp; omega,fun n b pb hb hp => ?_,hn⟩
  rw [List.getElem?_take] at hb hp
  split at hb
  case isFalse => cases hb
  rename_i hnk
  rw [if_pos hnk] at hp
  have h := H.blk n b pb hb hp
  have hpt : ∀ (m b : Nat),m < n + 1 → φ[m]? = some b → (φ.take k)[m]? = some b := fun m b hm e => by rw [List.getElem?_take,if_pos (by omega)]; exact e
  cases b with
  | dead => exact True.intro
  | cells rw cs =>
    obtain ⟨lrw,lcs,h1,h2,h3,h4⟩ := h
    refine ⟨lrw,lcs,h1,h2.tr h3 hpt fr,h3,?_⟩
    by_cases hc : rw = true ∧ lo ≤ n
    · rw [if_pos hc] at h4 ⊢
      refine ⟨h4.1,(hs n hnk pb _ (lt_of_getElem? h1) h4.2.1 rfl).1,fun i v l hv hl => (h4.2.2 i v l hv hl).monoT ⟨φ,h2.2 i v l hv hl⟩ fr (Same.t fun b x hb hx e => hs n hnk b x hb hx (by subst e; rfl))⟩
    · rw [if_neg hc] at h4 ⊢
      exact hst pb _ h1 (fun m u h => by cases h) h4
  | map es =>
    obtain ⟨les,h1,h2,h3,h4⟩ := h
    refine ⟨les,h1,h2,fun i e le a b => ⟨(h3 i e le a b).1,(h3 i e le a b).2.1,(h3 i e le a b).2.2.1.tr (h3 i e le a b).2.2.2 (fun m b hm => absurd hm (Nat.not_lt_zero m)) fr,(h3 i e le a b).2.2.2⟩,?_⟩
    by_cases hc : lo ≤ n
    · rw [if_pos hc] at h4 ⊢; exact (hs n hnk pb _ (lt_of_getElem? h1) h4 rfl).1
    · rw [if_neg hc] at h4 ⊢; exact hst pb _ h1 (fun m u h => by cases h) h4

theorem trim_sim {k : Nat} (hl : lo ≤ k) (hk : k ≤ vh.length) (hle : lowL k env = true) (H : HS lo w φ vh lh) (E : ES w φ lh env lenv) : ∃ w',Fr w lh w' lh ∧ HS lo w' (φ.take k) (vh.take k) lh ∧ ES w' (φ.take k) lh env lenv := by
  have fr : Fr w lh (fun b => dropO k (w b)) lh := ⟨Nat.le_refl _,fun b _ hw => ⟨by simp only [hw]; rfl,rfl⟩,fun b _ hw => ⟨by simp only [hw]; rfl,rfl⟩⟩
  refine ⟨fun b => dropO k (w b),fr,H.cut hl hk fr.weak (fun pb x hx _ h => (fr.stay pb (lt_of_getElem? hx) h).1) (fun n hn b x hb hw hx => ⟨by simp only [hw]; exact dropO_ofBlk hx hn,rfl⟩) (fun b hb => by simp only [H.new b hb]; rfl),⟨E.len,fun i v l hv hl' => ⟨(E.get i v l hv hl').1.tr (lowL_get hle hv) (fun n b hn e => by rw [List.getElem?_take,if_pos hn]; exact e) fr,(E.get i v l hv hl').2.mono ⟨φ,(E.get i v l hv hl').1⟩ fr fun b x hb hw e => ⟨by simp only [hw]; subst e; rfl,rfl⟩⟩⟩⟩

theorem keep_es (E : ES w φ lh env lenv) (keep : List Nat) : ES w φ lh (keepV keep env) lenv := by
  refine ⟨by simp [keepV,E.len],fun i v l hv hl => ?_⟩
  simp only [keepV,List.getElem?_mapIdx] at hv
  obtain ⟨v0,hv0,rfl⟩ := Option.map_eq_some_iff.1 hv
  split
  · exact E.get i v0 l hv0 hl
  · exact ⟨.undef _,Tok.no fun r hr => by cases hr⟩
theorem keep_es2 (E : ES w φ lh env lenv) (keep : List Nat) : ES w φ lh (keepV keep env) (keepE keep lenv) := by
  refine ⟨by simp [keepV,keepE,E.len],fun i v l hv hl => ?_⟩
  simp only [keepV,List.getElem?_mapIdx] at hv
  simp only [keepE,List.getElem?_mapIdx] at hl
  obtain ⟨v0,hv0,rfl⟩ := Option.map_eq_some_iff.1 hv
  obtain ⟨l0,hl0,rfl⟩ := Option.map_eq_some_iff.1 hl
  split
  · exact E.get i v0 l0 hv0 hl0
  · exact ⟨.undef _,Tok.no fun r hr => by cases hr⟩

theorem iter_sim {keep : List Nat} {body : VEnv → VHeap → Option (Out × VEnv × VHeap)} {lbody : Env → Heap → (Out → Env → Heap → Prop) → Prop} (hbm : ∀ e h Q Q',(∀ o e h,Q o e h → Q' o e h) → lbody e h Q → lbody e h Q')
    (hb : ∀ w φ env lenv vh lh o env' vh',HS lo w φ vh lh → ES w φ lh env lenv → body (keepV keep env) vh = some (o,env',vh') → lbody lenv lh fun o' lenv' lh' => o' = o ∧ StepRes lo w φ lh env' vh' lenv' lh') :
    ∀ (k : Nat) (w : Own) (φ : List Nat) (env : VEnv) (lenv : Env) (vh : VHeap) (lh : Heap) (o : Out) (env' : VEnv) (vh' : VHeap),HS lo w φ vh lh → ES w φ lh env lenv → iterV keep body k env vh = some (o,env',vh') → iterS lbody k lenv lh fun o' lenv' lh' => o' = o ∧ StepRes lo w φ lh env' vh' lenv' lh' := by
  intro k
  induction k with
  | zero => intro w φ env lenv vh lh o env' vh' _ _ h; cases h
  | succ k ih =>
    intro w φ env lenv vh lh o env' vh' H E h
    simp only [iterV] at h
    cases hx : body (keepV keep env) vh with
    | none => rw [hx] at h; cases h
    | some r =>
      obtain ⟨o1,env1,vh1⟩ := r
      rw [hx] at h
      simp only [iterS]
      refine hbm _ _ _ _ ?_ (hb w φ env lenv vh lh o1 env1 vh1 H E hx)
      rintro o1' lenv1 lh1 ⟨rfl,w1,φ1,h2,h3,h4,h5⟩
      cases o1' with
      | norm =>
        simp only at h
        have hle : vh.length ≤ vh1.length := by
          rw [← H.len,← h4.len]
          rcases Nat.lt_or_ge φ1.length φ.length with hlt | hge
          · exfalso
            have := h3 φ1.length _ (List.getElem?_eq_getElem hlt)
            rw [List.getElem?_eq_none (Nat.le_refl _)] at this; cases this
          · exact hge
        have E1 := keep_es h5 keep
        obtain ⟨w2,φ2,g1,g2,g3,g4⟩ : ∃ w2 φ2,Fr w1 lh1 w2 lh1 ∧ PExt φ φ2 ∧ HS lo w2 φ2 (trim vh.length (keepV keep env1) vh1) lh1 ∧ ES w2 φ2 lh1 (keepV keep env1) lenv1 := by
          unfold trim
          by_cases hc : lowL vh.length (keepV keep env1) = true
          · rw [if_pos hc]
            obtain ⟨w2,q1,q2,q3⟩ := trim_sim H.lol hle hc h4 E1
            exact ⟨w2,φ1.take vh.length,q1,fun n b e => by rw [List.getElem?_take,if_pos (by rw [← H.len]; exact lt_of_getElem? e)]; exact h3 n b e,q2,q3⟩
          · rw [if_neg hc]
            exact ⟨w1,φ1,Fr.refl _ _,h3,h4,E1⟩
        refine iterS_mono hbm ?_ k _ _ (ih w2 φ2 _ lenv1 _ lh1 o env' vh' g3 g4 h)
        rintro o' e' h' ⟨rfl,hs⟩
        exact ⟨rfl,StepRes.trans (env1 := env1) (vh1 := vh1) (h2.trans g1) g2 hs⟩
      | exit j =>
        simp only [Option.some.injEq,Prod.mk.injEq] at h
        obtain ⟨rfl,rfl,rfl⟩ := h
        exact ⟨rfl,w1,φ1,h2,h3,h4,h5⟩
      | ret =>
        simp only [Option.some.injEq,Prod.mk.injEq] at h
        obtain ⟨rfl,rfl,rfl⟩ := h
        exact ⟨rfl,w1,φ1,h2,h3,h4,h5⟩

theorem code_sim (hm : CsMono cs) (hcf : CallSim cf cs) (K : Nat) : ∀ (c : LCode) (w : Own) (φ : List Nat) (env : VEnv) (lenv : Env) (vh : VHeap) (lh : Heap) (o : Out) (env' : VEnv) (vh' : VHeap),HS lo w φ vh lh → ES w φ lh env lenv → codeV cf lo K c env vh = some (o,env',vh') → codeS cs K c lenv lh fun o' lenv' lh' => o' = o ∧ StepRes lo w φ lh env' vh' lenv' lh' := by
  intro c
  have here : ∀ {w φ env lenv vh lh},HS lo w φ vh lh → ES w φ lh env lenv → StepRes lo w φ lh env vh lenv lh := fun H E => ⟨_,_,Fr.refl _ _,PExt.refl _,H,E⟩
  induction c with
  | skip =>
    intro w φ env lenv vh lh o env' vh' H E h
    simp only [codeV,Option.some.injEq,Prod.mk.injEq] at h
    obtain ⟨rfl,rfl,rfl⟩ := h
    exact ⟨rfl,here H E⟩
  | exit id =>
    intro w φ env lenv vh lh o env' vh' H E h
    simp only [codeV,Option.some.injEq,Prod.mk.injEq] at h
    obtain ⟨rfl,rfl,rfl⟩ := h
    exact ⟨rfl,here H E⟩
  | ret =>
    intro w φ env lenv vh lh o env' vh' H E h
    simp only [codeV,Option.some.injEq,Prod.mk.injEq] at h
    obtain ⟨rfl,rfl,rfl⟩ := h
    exact ⟨rfl,here H E⟩
  | ops l =>
    intro w φ env lenv vh lh o env' vh' H E h
    simp only [codeV] at h
    split at h
    case h_2 => cases h
    rename_i env1 vh1 h1
    simp only [Option.some.injEq,Prod.mk.injEq] at h
    obtain ⟨rfl,rfl,rfl⟩ := h
    exact opsS_mono hm (fun _ _ h => ⟨rfl,h⟩) l lenv lh (ops_sim hm hcf l w φ env lenv vh lh _ _ H E h1)
  | dops bs l =>
    intro w φ env lenv vh lh o env' vh' H E h
    simp only [codeV] at h
    split at h
    case h_2 => cases h
    rename_i env1 vh1 h1
    simp only [Option.some.injEq,Prod.mk.injEq] at h
    obtain ⟨rfl,rfl,rfl⟩ := h
    have fst : ∀ {l : List LOper} {R : Nat → Nat → Bool} {es : Nat → VEnv} {hs : Nat → VHeap},es 0 = env → hs 0 = vh → DI l R es hs (fun _ => false) env vh := fun e0 e1 =>
      ⟨(fun i h => Bool.noConfusion h),(fun i j h => Bool.noConfusion h),(by rw [e0]),(fun t _ => by rw [e0]),(fun t j o _ h => Bool.noConfusion h),⟨0,Nat.zero_le _,(fun i o _ _ => by simp),e1.symm⟩⟩
    unfold dopsV at h1
    split at h1
    · rename_i hd
      obtain ⟨es,hs,e0,e1,e2,e3,e4⟩ := opsV_states l env vh _ _ h1
      have := dops_sim hm hcf (drawC_Ord hd) e4 l.length (fun _ => false) w φ env lenv vh lh (fst e0 e1) H E
      rw [e2,e3] at this
      exact dopsS_mono hm (fun _ _ h => ⟨rfl,h⟩) _ _ lenv lh this
    · split at h1
      · rename_i hd
        obtain ⟨es,hs,e0,e1,e2,e3,e4,e5⟩ := opsW_states l env vh _ _ h1
        have := dops_sim hm hcf (drawW_Ord hd (fun i o ho => (e4 i o ho).2) e5) (fun i o ho => (e4 i o ho).1) l.length (fun _ => false) w φ env lenv vh lh (fst e0 e1) H E
        rw [e2,e3] at this
        exact dopsS_mono hm (fun _ _ h => ⟨rfl,h⟩) _ _ lenv lh this
      · have caseZ : opsZd cf lo bs l env vh = some (env1,vh1) → dopsS cs bs l (fun e h => Out.norm = Out.norm ∧ StepRes lo w φ lh env1 vh1 e h) l.length (fun _ => false) lenv lh := fun h1 => by
          unfold opsZd at h1
          split at h1
          case h_2 => cases h1
          rename_i a b hp
          split at h1
          case isFalse => cases h1
          rename_i hd
          unfold opsZ at h1
          split at h1
          case h_2 => cases h1
          rename_i r hr
          split at h1
          case h_2 => cases h1
          rename_i r' hr'
          split at h1
          case isFalse => cases h1
          rename_i hrr
          subst hrr
          simp only [Option.some.injEq] at h1
          subst h1
          obtain ⟨es,hs,e0,e1,e2,e3,e4,e5⟩ := opsW_states l env vh _ _ hr
          obtain ⟨es',hs',e0',e1',e2',e3',e4',e5'⟩ := opsW_states (moveBk a b l) env vh _ _ hr'
          obtain ⟨hab,hbl,oA,oB⟩ := drawZ_Ord (cf := cf) (lo := lo) hd
          rw [moveBk_len hab hbl] at e2' e3'
          have := dops_simY hm hcf hab hbl (ofN_toN hab) (toN_ofN hab) (moveBk_get hab hbl) (moveBk_len hab hbl) (fun k hk => by unfold ofN; split <;> (try split) <;> omega) (oA es hs _ vh (fun i o ho => (e4 i o ho).2) e5) (oB es' hs' _ vh (fun i o ho => (e4' i o ho).2) e5') (fun i o ho => (e4 i o ho).1) (fun i o ho => (e4' i o ho).1) (w0 := w) (φ0 := φ) (lh0 := lh)
            (fun lenv' lh' hst => by
              rw [e2,e3]
              rw [e2',e3'] at hst
              exact hst) l.length (fun _ => false) w φ env lenv vh lh (Fr.refl _ _) (PExt.refl _) rfl rfl (fst e0 e1) (fst e0' e1') H E
          rw [e2,e3] at this
          exact dopsS_mono hm (fun _ _ h => ⟨rfl,h⟩) _ _ lenv lh this
        have caseY : opsYd cf lo bs l env vh = some (env1,vh1) → dopsS cs bs l (fun e h => Out.norm = Out.norm ∧ StepRes lo w φ lh env1 vh1 e h) l.length (fun _ => false) lenv lh := fun h1 => by
          unfold opsYd at h1
          split at h1
          case h_2 => exact caseZ h1
          rename_i a b hp
          split at h1
          case isFalse => cases h1
          rename_i hd
          unfold opsY at h1
          split at h1
          case h_2 => cases h1
          rename_i r hr
          split at h1
          case h_2 => cases h1
          rename_i r' hr'
          split at h1
          case isFalse => cases h1
          rename_i hrr
          simp only [Option.some.injEq] at h1
          subst h1
          obtain ⟨es,hs,e0,e1,e2,e3,e4,e5⟩ := opsW_states l env vh _ _ hr
          obtain ⟨es',hs',e0',e1',e2',e3',e4',e5'⟩ := opsW_states (moveTo a b l) env vh _ _ hr'
          obtain ⟨hab,hbl,oA,oB⟩ := drawY_Ord (cf := cf) (lo := lo) hd
          rw [moveTo_len hab hbl] at e2' e3'
          have := dops_simY hm hcf hab hbl (toN_ofN hab) (ofN_toN hab) (moveTo_get hab hbl) (moveTo_len hab hbl) (fun k hk => by unfold toN; split <;> (try split) <;> omega) (oA es hs _ vh (fun i o ho => (e4 i o ho).2) e5) (oB es' hs' _ vh (fun i o ho => (e4' i o ho).2) e5') (fun i o ho => (e4 i o ho).1) (fun i o ho => (e4' i o ho).1) (w0 := w) (φ0 := φ) (lh0 := lh)
            (fun lenv' lh' hst => by
              rw [e2,e3]
              rw [e2',e3'] at hst
              exact swap_res (r := (env1,vh1)) (r' := r') (by rw [H.len]; exact H.lol) (by rw [H.len]; exact hrr) hst) l.length (fun _ => false) w φ env lenv vh lh (Fr.refl _ _) (PExt.refl _) rfl rfl (fst e0 e1) (fst e0' e1') H E
          rw [e2,e3] at this
          exact dopsS_mono hm (fun _ _ h => ⟨rfl,h⟩) _ _ lenv lh this
        split at h1
        case h_2 => exact caseY h1
        rename_i a b hp
        split at h1
        case isFalse => exact caseY h1
        rename_i hd
        unfold opsX at h1
        split at h1
        case h_2 => cases h1
        rename_i r hr
        split at h1
        case h_2 => cases h1
        rename_i r' hr'
        split at h1
        case isFalse => cases h1
        rename_i hrr
        subst hrr
        simp only [Option.some.injEq] at h1
        subst h1
        obtain ⟨es,hs,e0,e1,e2,e3,e4⟩ := opsV_states l env vh _ _ hr
        obtain ⟨es',hs',e0',e1',e2',e3',e4'⟩ := opsV_states (moveTo a b l) env vh _ _ hr'
        obtain ⟨hab,hbl,_⟩ := drawX_Ord (cf := cf) (lo := lo) hd
        rw [moveTo_len hab hbl] at e2' e3'
        have := dops_simX hm hcf hd e4 e4' (e2'.trans e2.symm) (e3'.trans e3.symm) l.length (fun _ => false) w φ env lenv vh lh rfl rfl (fst e0 e1) (fst e0' e1') H E
        rw [e2,e3] at this
        exact dopsS_mono hm (fun _ _ h => ⟨rfl,h⟩) _ _ lenv lh this
  | seq a b iha ihb =>
    intro w φ env lenv vh lh o env' vh' H E h
    simp only [codeV] at h
    cases hx : codeV cf lo K a env vh with
    | none => rw [hx] at h; cases h
    | some r =>
      obtain ⟨o1,env1,vh1⟩ := r
      rw [hx] at h
      refine codeS_mono hm a _ _ _ _ ?_ (iha w φ env lenv vh lh o1 env1 vh1 H E hx)
      rintro o1' lenv1 lh1 ⟨rfl,w1,φ1,h2,h3,h4,h5⟩
      cases o1' with
      | norm =>
        refine codeS_mono hm b _ _ _ _ ?_ (ihb w1 φ1 env1 lenv1 vh1 lh1 o env' vh' h4 h5 h)
        rintro o' e' h' ⟨rfl,hs⟩
        exact ⟨rfl,StepRes.trans (env1 := env1) (vh1 := vh1) h2 h3 hs⟩
      | exit j =>
        simp only [Option.some.injEq,Prod.mk.injEq] at h
        obtain ⟨rfl,rfl,rfl⟩ := h
        exact ⟨rfl,w1,φ1,h2,h3,h4,h5⟩
      | ret =>
        simp only [Option.some.injEq,Prod.mk.injEq] at h
        obtain ⟨rfl,rfl,rfl⟩ := h
        exact ⟨rfl,w1,φ1,h2,h3,h4,h5⟩
  | cond c a b iha ihb =>
    intro w φ env lenv vh lh o env' vh' H E h
    simp only [codeV] at h
    have hx := E.x c
    split at h
    case h_2 => cases h
    rename_i t ht
    rw [ht] at hx
    simp only [codeS]
    generalize hl : c.ev lenv = l at hx
    cases hx
    cases t with
    | true =>
      simp only [if_true] at h ⊢
      exact iha w φ env lenv vh lh o env' vh' H E h
    | false =>
      simp only [Bool.false_eq_true,if_false] at h ⊢
      exact ihb w φ env lenv vh lh o env' vh' H E h
  | block id c ih =>
    intro w φ env lenv vh lh o env' vh' H E h
    simp only [codeV] at h
    cases hx : codeV cf lo K c env vh with
    | none => rw [hx] at h; cases h
    | some r =>
      obtain ⟨o1,env1,vh1⟩ := r
      rw [hx] at h
      refine codeS_mono hm c _ _ _ _ ?_ (ih w φ env lenv vh lh o1 env1 vh1 H E hx)
      rintro o1' lenv1 lh1 ⟨rfl,hs⟩
      cases o1' with
      | exit j =>
        simp only at h ⊢
        split at h
        · rename_i e
          rw [if_pos e]
          simp only [Option.some.injEq,Prod.mk.injEq] at h
          obtain ⟨rfl,rfl,rfl⟩ := h
          exact ⟨rfl,hs⟩
        · rename_i e
          rw [if_neg e]
          simp only [Option.some.injEq,Prod.mk.injEq] at h
          obtain ⟨rfl,rfl,rfl⟩ := h
          exact ⟨rfl,hs⟩
      | norm =>
        simp only [Option.some.injEq,Prod.mk.injEq] at h
        obtain ⟨rfl,rfl,rfl⟩ := h
        exact ⟨rfl,hs⟩
      | ret =>
        simp only [Option.some.injEq,Prod.mk.injEq] at h
        obtain ⟨rfl,rfl,rfl⟩ := h
        exact ⟨rfl,hs⟩
  | loop keep c ih =>
    intro w φ env lenv vh lh o env' vh' H E h
    simp only [codeV] at h
    exact iter_sim (lbody := fun env h Q => codeS cs K c (keepE keep env) h Q) (fun e h Q Q' hq hh => codeS_mono hm c _ _ Q Q' hq hh) (fun w φ env lenv vh lh o env' vh' H E h => ih w φ (keepV keep env) (keepE keep lenv) vh lh o env' vh' H (keep_es2 E keep) h) K w φ env lenv vh lh o env' vh' H E h
end
end Vg
