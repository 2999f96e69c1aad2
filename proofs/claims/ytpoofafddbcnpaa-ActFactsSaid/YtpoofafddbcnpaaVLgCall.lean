import Derived.Test.YtpoofafddbcnpaaVLgDraw3
import Derived.Calls
/- Code: what the logical machine comes to, the model comes to. -/
namespace Lg
open Go Go.RowKit
set_option linter.unusedSimpArgs false
set_option linter.unusedVariables false
section
variable {H : Hint} {P : Program} {m : Bool} {w0 : Ini m} {ρ : List Place} {h : Heap} {w : World} {a : Act} {env : Env} {cs : CallS}

def exitOf : Out → Exit
  | .norm => .normal
  | .exit id => .exit id
  | .ret => .ret

def Post {m : Bool} (w0 : Ini m) (ρ : List Place) (Q : Out → Env → Heap → Prop) : Exit → Act → World → Prop :=
  fun e a' w' => ∃ out env' h', e = exitOf out ∧ Q out env' h' ∧ a'.defers = [] ∧ ∃ ρ', Ext ρ ρ' ∧ ER ρ' a' env' ∧ Rep w0 ρ' h' w'

theorem Post.trans {ρ1 : List Place} {Q : Out → Env → Heap → Prop} (he : Ext ρ ρ1) {e : Exit} {a' : Act} {w' : World} (h : Post w0 ρ1 Q e a' w') : Post w0 ρ Q e a' w' := by
  obtain ⟨out, env', h', h1, hq, h2, ρ', h3, h4, h5⟩ := h
  exact ⟨out, env', h', h1, hq, h2, ρ', he.trans h3, h4, h5⟩

theorem keepE_er {keep : List Nat} (E : ER ρ a env) : ER ρ a (keepE keep env) := by
  refine ⟨by have := E.1; simpa [keepE] using this, fun i v l hv hl => ?_⟩
  simp only [keepE, List.getElem?_mapIdx] at hl
  cases he : env[i]? with
  | none => rw [he] at hl; cases hl
  | some u =>
    rw [he] at hl
    simp only [Option.map_some, Option.some.injEq] at hl
    subst hl
    split
    · exact E.2 i v u hv he
    · exact .undef v

theorem code_wp (hcf : CallOK m P cs) (K : Nat) : ∀ (c : Code) (s : List (List Nat)) (lc : LCode) (s' : List (List Nat)), preCode P H c s = some (lc, s') →
    ∀ (ρ : List Place) (a : Act) (env : Env) (h : Heap) (w : World) (Q : Out → Env → Heap → Prop), codeS cs K lc env h Q →
      ER ρ a env → a.defers = [] → Rep w0 ρ h w → c.wp P (Post w0 ρ Q) a w := by
  intro c
  induction c with
  | skip =>
    intro s lc s' hp ρ a env h w Q hE E hd R
    simp only [preCode, Option.some.injEq, Prod.mk.injEq] at hp
    obtain ⟨rfl, _⟩ := hp
    exact wp_skip ⟨.norm, env, h, rfl, hE, hd, ρ, Ext.refl ρ, E, R⟩
  | region id ops draw =>
    intro s lc s' hp ρ a env h w Q hE E hd R
    simp only [preCode] at hp
    split at hp
    case h_1 => cases hp
    rename_i los hlos
    cases draw with
    | false =>
      simp only [Bool.false_eq_true, if_false, Option.some.injEq, Prod.mk.injEq] at hp
      obtain ⟨rfl, _⟩ := hp
      exact region_wp hcf hlos E hd R hE fun a' w' ρ' env' h' hq he hE' hdd hR => ⟨.norm, env', h', rfl, hq, hdd, ρ', he, hE', hR⟩
    | true =>
      simp only [if_true] at hp
      split at hp
      case isFalse => cases hp
      rename_i hc
      simp only [Bool.and_eq_true] at hc
      cases hp
      exact dregion_wp hcf hlos hc.1 hc.2 E hd R hE fun a' w' ρ' env' h' hq he hE' hdd hR => ⟨.norm, env', h', rfl, hq, hdd, ρ', he, hE', hR⟩
  | seq x y ihx ihy =>
    intro s lc s' hp ρ a env h w Q hE E hd R
    simp only [preCode] at hp
    split at hp
    case h_2 => cases hp
    rename_i lx s1 hx
    split at hp
    case h_2 => cases hp
    rename_i ly s2 hy
    cases hp
    refine wp_seq (wp_mono (ihx s lx s1 hx ρ a env h w _ hE E hd R) ?_)
    rintro e a1 w1 ⟨out, env1, h1, rfl, hq, hd1, ρ1, he1, hE1, hR1⟩
    cases out with
    | norm => exact wp_mono (ihy s1 ly _ hy ρ1 a1 env1 h1 w1 Q hq hE1 hd1 hR1) fun e a2 w2 hh => hh.trans he1
    | exit id => exact ⟨.exit id, env1, h1, rfl, hq, hd1, ρ1, he1, hE1, hR1⟩
    | ret => exact ⟨.ret, env1, h1, rfl, hq, hd1, ρ1, he1, hE1, hR1⟩
  | cond c x y ihx ihy =>
    intro s lc s' hp ρ a env h w Q hE E hd R
    simp only [preCode] at hp
    split at hp
    case h_2 => cases hp
    rename_i c' lx s1 hc hx
    split at hp
    case h_2 => cases hp
    rename_i ly s2 hy
    cases hp
    simp only [codeS] at hE
    split at hE
    case h_2 => exact hE.elim
    rename_i t ht
    have hv := preX_vr E hc
    rw [ht] at hv
    refine wp_cond hv.bool_inv ?_
    cases t with
    | true => exact ihx s lx s1 hx ρ a env h w Q hE E hd R
    | false => exact ihy s1 ly _ hy ρ a env h w Q hE E hd R
  | block id c ih =>
    intro s lc s' hp ρ a env h w Q hE E hd R
    simp only [preCode] at hp
    split at hp
    case h_2 => cases hp
    rename_i lx s1 hx
    cases hp
    refine wp_block (wp_mono (ih s lx _ hx ρ a env h w _ hE E hd R) ?_)
    rintro e a1 w1 ⟨out, env1, h1, rfl, hq, hrest⟩
    cases out with
    | norm => exact ⟨.norm, env1, h1, rfl, hq, hrest⟩
    | ret => exact ⟨.ret, env1, h1, rfl, hq, hrest⟩
    | exit j =>
      simp only at hq
      by_cases hj : j = id
      · rw [if_pos hj] at hq
        show Exit.inBlock id _ (.exit j) a1 w1
        simp only [Exit.inBlock, hj, if_true]
        exact ⟨.norm, env1, h1, rfl, hq, hrest⟩
      · rw [if_neg hj] at hq
        show Exit.inBlock id _ (.exit j) a1 w1
        simp only [Exit.inBlock, hj, if_false]
        exact ⟨.exit j, env1, h1, rfl, hq, hrest⟩
  | loop c ih =>
    intro s lc s' hp ρ a env h w Q hE E hd R
    cases s with
    | nil => simp [preCode] at hp
    | cons keep ks =>
      simp only [preCode] at hp
      split at hp
      case h_2 => cases hp
      rename_i lx s1 hx
      cases hp
      simp only [codeS] at hE
      have key : ∀ (k : Nat) (ρ1 : List Place) (a : Act) (env : Env) (h : Heap) (w : World), iterS (fun env h Q => codeS cs K lx (keepE keep env) h Q) k env h Q → Ext ρ ρ1 → ER ρ1 a env → a.defers = [] → Rep w0 ρ1 h w →
          (Code.loop c).wp P (Post w0 ρ Q) a w := by
        intro k
        induction k with
        | zero => intro ρ1 a env h w hE; exact hE.elim
        | succ k ihk =>
          intro ρ1 a env h w hE he E hd R
          simp only [iterS] at hE
          refine wp_loop_unroll (fun l a w hh => by obtain ⟨out, _, _, h1, _⟩ := hh; cases out <;> simp [exitOf] at h1) (fun a w hh => by obtain ⟨out, _, _, h1, _⟩ := hh; cases out <;> simp [exitOf] at h1) ?_
          refine wp_mono (ih _ lx _ hx ρ1 a (keepE keep env) h w _ hE (keepE_er E) hd R) ?_
          rintro e a1 w1 ⟨out, env1, h1, rfl, hq, hd1, ρ2, he2, hE2, hR2⟩
          cases out with
          | norm => exact ihk ρ2 a1 env1 h1 w1 hq (he.trans he2) hE2 hd1 hR2
          | exit j => exact ⟨.exit j, env1, h1, rfl, hq, hd1, ρ2, he.trans he2, hE2, hR2⟩
          | ret => exact ⟨.ret, env1, h1, rfl, hq, hd1, ρ2, he.trans he2, hE2, hR2⟩
      exact key K ρ a env h w hE (Ext.refl ρ) E hd R
  | exit id =>
    intro s lc s' hp ρ a env h w Q hE E hd R
    simp only [preCode, Option.some.injEq, Prod.mk.injEq] at hp
    obtain ⟨rfl, _⟩ := hp
    exact wp_exit ⟨.exit id, env, h, rfl, hE, hd, ρ, Ext.refl ρ, E, R⟩
  | ret =>
    intro s lc s' hp ρ a env h w Q hE E hd R
    simp only [preCode, Option.some.injEq, Prod.mk.injEq] at hp
    obtain ⟨rfl, _⟩ := hp
    exact wp_ret ⟨.ret, env, h, rfl, hE, hd, ρ, Ext.refl ρ, E, R⟩
  | _ => intro s lc s' hp; simp [preCode] at hp
end
end Lg
/- Calls. -/
namespace Lg
open Go Go.RowKit
set_option linter.unusedSimpArgs false
set_option linter.unusedVariables false
/-- The logical program is the model's. -/
def ExtOK (m : Bool) (P : Program) (f : FuncId) (lf : LFunc) : Prop := (∃ fn, P.funcs[f]? = some fn ∧ fn.body.isSome = true ∧ fn.name ≠ "runtime.NumGoroutine") ∧
  ∀ (cs : CallS) (K : Nat) (args : List LV) (h : Heap) (Q : LV → Heap → Prop), bodyS cs K lf args h Q → ∀ (w0 : Ini m) (ρ : List Place) (w : World) (vs : Array Value), Rep w0 ρ h w → VRs ρ vs.toList args →
    Calls P f vs w fun e w' => ∃ v ρ' r h', e = .returned v ∧ Ext ρ ρ' ∧ Rep w0 ρ' h' w' ∧ VR ρ' v r ∧ Q r h'
def PSound (m : Bool) (P : Program) (p : LProg) : Prop := ∀ f lf, p f = some lf → (∃ fn H s, P.funcs[f]? = some fn ∧ preFunc P H fn s = some lf) ∨ ExtOK m P f lf
section
variable {H : Hint} {P : Program} {m : Bool} {w0 : Ini m} {ρ : List Place} {h h' : Heap} {w : World} {a : Act} {env : Env} {cs : CallS}
theorem run_res {g0 : ResultVar → Sem Value} (hft : ∀ t, g0 (.tmp t) = pure (a.tmps.getD t undef)) (hfc : ∀ x t, g0 (.cell x t) = (do loadVar t (← asAddr (a.tmps.getD x undef)))) {r : ResultVar} {lr : LRes} (hp : preRes P r = some lr) {l : LV} (hE : resE env h lr = some l) (E : ER ρ a env) (R : Rep w0 ρ h w) :
    ∃ v, (g0 r).run P w = .ok v w ∧ VR ρ v l := by
  cases r with
  | tmp t =>
    simp only [preRes, Option.some.injEq] at hp
    subst hp
    simp only [resE, Option.some.injEq] at hE
    subst hE
    exact ⟨_, by rw [hft]; rfl, E.get t⟩
  | cell x t =>
    simp only [preRes] at hp
    split at hp
    case h_2 => cases hp
    rename_i g n hg hn
    cases hp
    simp only [resE] at hE
    split at hE
    case h_2 => cases hE
    rename_i b off hb
    split at hE
    case h_2 => cases hE
    rename_i rw cs hcs
    have h1 := E.get x
    rw [hb] at h1
    obtain ⟨pl, hpl, hv⟩ := h1.ptr_inv
    obtain ⟨u, hu, hr⟩ := run_loadVar_at hg hn R hcs hpl hE
    exact ⟨u, by rw [hfc]; simp [hv, asAddr, hu], hr⟩

theorem run_results {g0 : ResultVar → Sem Value} (hft : ∀ t, g0 (.tmp t) = pure (a.tmps.getD t undef)) (hfc : ∀ x t, g0 (.cell x t) = (do loadVar t (← asAddr (a.tmps.getD x undef)))) : ∀ (rs : List ResultVar) (lrs : List LRes) (ls : List LV), rs.mapM (preRes P) = some lrs → resultsE env h lrs = some ls → ER ρ a env → Rep w0 ρ h w →
    ∃ vs, (rs.mapM g0).run P w = .ok vs w ∧ VRs ρ vs ls
  | [], lrs, ls, hp, hE, E, R => by
    simp at hp; subst hp
    simp only [resultsE, Option.some.injEq] at hE
    subst hE
    exact ⟨[], by simp, .nil ρ⟩
  | r :: rs, lrs, ls, hp, hE, E, R => by
    rw [List.mapM_cons] at hp
    simp only [Option.bind_eq_bind, Option.bind_eq_some_iff, Option.pure_def, Option.some.injEq] at hp
    obtain ⟨lr, hlr, lrs', hlrs, rfl⟩ := hp
    simp only [resultsE] at hE
    split at hE
    case h_2 => cases hE
    rename_i l ls' hl hls
    cases hE
    obtain ⟨v, hv, hr⟩ := run_res hft hfc hlr hl E R
    obtain ⟨vs, hvs, hrs⟩ := run_results hft hfc rs lrs' ls' hlrs hls E R
    refine ⟨v :: vs, ?_, .cons hr hrs⟩
    rw [List.mapM_cons]
    simp only [Sem.run_bind, hv, Result.andThen_ok, hvs, Sem.run_pure]

theorem one_vr {vs : List Value} {ls : List LV} (h : VRs ρ vs ls) : VR ρ (if hz : vs.toArray.size = 1 then vs.toArray[0] else .tuple vs.toArray) (oneOf ls) := by
  match vs, ls, h with
  | [v], [l], h => exact h.2 0 v l rfl rfl
  | [], [], h => exact VRs.tup (cs := #[]) (VRs.nil ρ)
  | v :: u :: vs, l :: k :: ls, h =>
    have : ¬ ((v :: u :: vs).toArray.size = 1) := by simp
    rw [dif_neg this]
    exact VRs.tup (cs := (v :: u :: vs).toArray) (by simpa using h)
  | [], _ :: _, h => have := h.1; simp at this
  | _ :: _, [], h => have := h.1; simp at this
  | [_], _ :: _ :: _, h => have := h.1; simp at this
  | _ :: _ :: _, [_], h => have := h.1; simp at this


theorem body_calls {f : FuncId} {fn : Func} {lf : LFunc} {s : List (List Nat)} {K : Nat} {args : List LV} {Q : LV → Heap → Prop} (hf : P.funcs[f]? = some fn) (hp : preFunc P H fn s = some lf) (hcf : CallOK m P cs)
    (hE : bodyS cs K lf args h Q) (R : Rep w0 ρ h w) {vs : Array Value} (hv : VRs ρ vs.toList args) :
    Calls P f vs w fun e w' => ∃ v ρ' r h', e = .returned v ∧ Ext ρ ρ' ∧ Rep w0 ρ' h' w' ∧ VR ρ' v r ∧ Q r h' := by
  unfold preFunc at hp
  split at hp
  · cases hp
  split at hp
  · cases hp
  rename_i c hb
  split at hp
  case h_2 => cases hp
  rename_i lc s' rs hc hrs
  have hp' := Option.some.inj hp
  have e1 : lc = lf.body := congrArg LFunc.body hp'
  have e2 : rs = lf.results := congrArg LFunc.results hp'
  have e3 : fn.ntmps = lf.ntmps := congrArg LFunc.ntmps hp'
  have e4 : fn.params.size + fn.nfree = lf.nargs := congrArg LFunc.nargs hp'
  unfold bodyS at hE
  rw [← e1, ← e2, ← e3, ← e4] at hE
  obtain ⟨hlen, hE⟩ := hE
  have hE0 : ER ρ { tmps := vs ++ Array.replicate (fn.ntmps - vs.size) undef, defers := [] } (args ++ List.replicate (fn.ntmps - (fn.params.size + fn.nfree)) (.tup [])) := by
    have hvl : vs.size = fn.params.size + fn.nfree := by have := hv.1; simp at this; omega
    show VRs ρ (vs ++ Array.replicate (fn.ntmps - vs.size) undef).toList _
    rw [Array.toList_append, hvl, Array.toList_replicate]
    exact hv.append (VRs.replicate ρ (VRs.tup (cs := #[]) (VRs.nil ρ)) _)
  refine calls_of_wp hf hb (wp_mono (code_wp hcf K c s lc s' hc ρ _ _ h w _ hE hE0 rfl R) ?_)
  rintro e a1 w1 ⟨out, env1, h1, rfl, ⟨hout, ls, hls, hq⟩, hd, ρ', he, hE', hR⟩
  have hex : ∃ us, (results fn a1.tmps).run P w1 = .ok (if hz : us.toArray.size = 1 then us.toArray[0] else .tuple us.toArray) w1 ∧ VRs ρ' us ls := by
    unfold results
    simp only [Sem.run_bind, Array.mapM_eq_mapM_toList, Sem.run_map]
    generalize hg : (fun (x : ResultVar) => _) = g0
    obtain ⟨us, hus, hru⟩ := run_results (P := P) (g0 := g0) (fun t => by rw [← hg]) (fun x t => by rw [← hg]) fn.results.toList rs ls hrs hls hE' hR
    exact ⟨us, by rw [hus]; rfl, hru⟩
  obtain ⟨us, hrun, hru⟩ := hex
  rcases hout with rfl | rfl
  · exact ⟨hd, _, hrun, _, ρ', _, _, rfl, he, hR, one_vr hru, hq⟩
  · exact ⟨hd, _, hrun, _, ρ', _, _, rfl, he, hR, one_vr hru, hq⟩

theorem callS_ok {p : LProg} (hs : PSound m P p) : ∀ K, CallOK m P (callS p K)
  | 0 => fun f args h Q hE => hE.elim
  | K + 1 => fun f args h Q hE => by
    simp only [callS] at hE
    split at hE
    case h_1 => exact hE.elim
    rename_i lf hlf
    rcases hs f lf hlf with ⟨fn, H, s, hf, hp⟩ | hx
    case inr => exact ⟨hx.1, fun w0 ρ w vs R hv => hx.2 _ _ _ _ _ hE w0 ρ w vs R hv⟩
    refine ⟨⟨fn, hf, ?_, ?_⟩, fun w0 ρ w vs R hv => body_calls hf hp (callS_ok hs K) hE R hv⟩
    · unfold preFunc at hp
      split at hp
      · cases hp
      · split at hp
        · cases hp
        · rename_i hb; rw [hb]; rfl
    · unfold preFunc at hp
      split at hp
      · cases hp
      · rename_i hn; exact hn
end
end Lg
