/- Calls. -/
import Derived.Test.YtpoofafddbcnpaaVLgMain
import Derived.Calls
namespace Lg
open Go Go.RowKit
set_option linter.unusedSimpArgs false
set_option linter.unusedVariables false
/-- The logical program is the model's. -/
def ExtOK (m : Bool) (P : Program) (f : FuncId) (lf : LFunc) : Prop := (∃ fn,P.funcs[f]? = some fn ∧ fn.body.isSome = true ∧ fn.name ≠ "runtime.NumGoroutine") ∧
  ∀ (cs : CallS) (K : Nat) (args : List LV) (h : Heap) (Q : LV → Heap → Prop),bodyS cs K lf args h Q → ∀ (w0 : Ini m) (ρ : List Place) (w : World) (vs : Array Value),Rep w0 ρ h w → VRs ρ vs.toList args →
    Calls P f vs w fun e w' => ∃ v ρ' r h',e = .returned v ∧ Ext ρ ρ' ∧ Rep w0 ρ' h' w' ∧ VR ρ' v r ∧ Q r h'
def PSound (m : Bool) (P : Program) (p : LProg) : Prop := ∀ f lf,p f = some lf → (∃ fn H s,P.funcs[f]? = some fn ∧ preFunc P H fn s = some lf) ∨ ExtOK m P f lf
section
variable {H : Hint} {P : Program} {m : Bool} {w0 : Ini m} {ρ : List Place} {h h' : Heap} {w : World} {a : Act} {env : Env} {cs : CallS}
theorem run_res {g0 : ResultVar → Sem Value} (hft : ∀ t,g0 (.tmp t) = pure (a.tmps.getD t undef)) (hfc : ∀ x t,g0 (.cell x t) = (do loadVar t (← asAddr (a.tmps.getD x undef)))) {r : ResultVar} {lr : LRes} (hp : preRes P r = some lr) {l : LV} (hE : resE env h lr = some l) (E : ER ρ a env) (R : Rep w0 ρ h w) :
    ∃ v,(g0 r).run P w = .ok v w ∧ VR ρ v l := by
  cases r with
  | tmp t =>
    simp only [preRes,Option.some.injEq] at hp
    subst hp
    simp only [resE,Option.some.injEq] at hE
    subst hE
    exact ⟨_,by rw [hft]; rfl,E.get t⟩
  | cell x t =>
    simp only [preRes] at hp
    split at hp
    case h_2 => cases hp
    rename_i g n hg hn
    cases hp
    simp only [resE] at hE
    split at hE
    case h_2 => cases hE
    rename_i b off hb
    split at hE
    case h_2 => cases hE
    rename_i rw cs hcs
    have h1 := E.get x
    rw [hb] at h1
    obtain ⟨pl,hpl,hv⟩ := h1.ptr_inv
    obtain ⟨u,hu,hr⟩ := run_loadVar_at hg hn R hcs hpl hE
    exact ⟨u,by rw [hfc]; simp [hv,asAddr,hu],hr⟩

theorem run_results {g0 : ResultVar → Sem Value} (hft : ∀ t,g0 (.tmp t) = pure (a.tmps.getD t undef)) (hfc : ∀ x t,g0 (.cell x t) = (do loadVar t (← asAddr (a.tmps.getD x undef)))) : ∀ (rs : List ResultVar) (lrs : List LRes) (ls : List LV),rs.mapM (preRes P) = some lrs → resultsE env h lrs = some ls → ER ρ a env → Rep w0 ρ h w →
    ∃ vs,(rs.mapM g0).run P w = .ok vs w ∧ VRs ρ vs ls
  | [],lrs,ls,hp,hE,E,R => by
    simp at hp; subst hp
    simp only [resultsE,Option.some.injEq] at hE
    subst hE
    exact ⟨[],by simp,.nil ρ⟩
  | r :: rs,lrs,ls,hp,hE,E,R => by
    rw [List.mapM_cons] at hp
    simp only [Option.bind_eq_bind,Option.bind_eq_some_iff,Option.pure_def,Option.some.injEq] at hp
    obtain ⟨lr,hlr,lrs',hlrs,rfl⟩ := hp
    simp only [resultsE] at hE
    split at hE
    case h_2 => cases hE
    rename_i l ls' hl hls
    cases hE
    obtain ⟨v,hv,hr⟩ := run_res hft hfc hlr hl E R
    obtain ⟨vs,hvs,hrs⟩ := run_results hft hfc rs lrs' ls' hlrs hls E R
    refine ⟨v :: vs,?_,.cons hr hrs⟩
    rw [List.mapM_cons]
    simp only [Sem.run_bind,hv,Result.andThen_ok,hvs,Sem.run_pure]

theorem one_vr {vs : List Value} {ls : List LV} (h : VRs ρ vs ls) : VR ρ (if hz : vs.toArray.size = 1 then vs.toArray[0] else .tuple vs.toArray) (oneOf ls) := by
  match vs,ls,h with
  | [v],[l],h => exact h.2 0 v l rfl rfl
  | [],[],h => exact VRs.tup (cs := #[]) (VRs.nil ρ)
  | v :: u :: vs,l :: k :: ls,h =>
    have : ¬ ((v :: u :: vs).toArray.size = 1) := by simp
    rw [dif_neg this]
    exact VRs.tup (cs := (v :: u :: vs).toArray) (by simpa using h)
  | [],_ :: _,h => have := h.1; simp at this
  | _ :: _,[],h => have := h.1; simp at this
  | [_],_ :: _ :: _,h => have := h.1; simp at this
  | _ :: _ :: _,[_],h => have := h.1; simp at this


theorem body_calls {f : FuncId} {fn : Func} {lf : LFunc} {s : List (List Nat)} {K : Nat} {args : List LV} {Q : LV → Heap → Prop} (hf : P.funcs[f]? = some fn) (hp : preFunc P H fn s = some lf) (hcf : CallOK m P cs)
    (hE : bodyS cs K lf args h Q) (R : Rep w0 ρ h w) {vs : Array Value} (hv : VRs ρ vs.toList args) :
    Calls P f vs w fun e w' => ∃ v ρ' r h',e = .returned v ∧ Ext ρ ρ' ∧ Rep w0 ρ' h' w' ∧ VR ρ' v r ∧ Q r h' := by
  unfold preFunc at hp
  split at hp
  · cases hp
  split at hp
  · cases hp
  rename_i c hb
  split at hp
  case h_2 => cases hp
  rename_i lc s' rs hc hrs
  have hp' := Option.some.inj hp
  have e1 : lc = lf.body := congrArg LFunc.body hp'
  have e2 : rs = lf.results := congrArg LFunc.results hp'
  have e3 : fn.ntmps = lf.ntmps := congrArg LFunc.ntmps hp'
  have e4 : fn.params.size + fn.nfree = lf.nargs := congrArg LFunc.nargs hp'
  unfold bodyS at hE
  rw [← e1,← e2,← e3,← e4] at hE
  obtain ⟨hlen,hE⟩ := hE
  have hE0 : ER ρ { tmps := vs ++ Array.replicate (fn.ntmps - vs.size) undef,defers := [] } (args ++ List.replicate (fn.ntmps - (fn.params.size + fn.nfree)) (.tup [])) := by
    have hvl : vs.size = fn.params.size + fn.nfree := by have := hv.1; simp at this; omega
    show VRs ρ (vs ++ Array.replicate (fn.ntmps - vs.size) undef).toList _
    rw [Array.toList_append,hvl,Array.toList_replicate]
    exact hv.append (VRs.replicate ρ (VRs.tup (cs := #[]) (VRs.nil ρ)) _)
  refine calls_of_wp hf hb (wp_mono (code_wp hcf K c s lc s' hc ρ _ _ h w _ hE hE0 rfl R) ?_)
  rintro e a1 w1 ⟨out,env1,h1,rfl,⟨hout,ls,hls,hq⟩,hd,ρ',he,hE',hR⟩
  have hex : ∃ us,(results fn a1.tmps).run P w1 = .ok (if hz : us.toArray.size = 1 then us.toArray[0] else .tuple us.toArray) w1 ∧ VRs ρ' us ls := by
    unfold results
    simp only [Sem.run_bind,Array.mapM_eq_mapM_toList,Sem.run_map]
    generalize hg : (fun (x : ResultVar) => _) = g0
    obtain ⟨us,hus,hru⟩ := run_results (P := P) (g0 := g0) (fun t => by rw [← hg]) (fun x t => by rw [← hg]) fn.results.toList rs ls hrs hls hE' hR
    exact ⟨us,by rw [hus]; rfl,hru⟩
  obtain ⟨us,hrun,hru⟩ := hex
  rcases hout with rfl | rfl
  · exact ⟨hd,_,hrun,_,ρ',_,_,rfl,he,hR,one_vr hru,hq⟩
  · exact ⟨hd,_,hrun,_,ρ',_,_,rfl,he,hR,one_vr hru,hq⟩

theorem callS_ok {p : LProg} (hs : PSound m P p) : ∀ K,CallOK m P (callS p K)
  | 0 => fun f args h Q hE => hE.elim
  | K + 1 => fun f args h Q hE => by
    simp only [callS] at hE
    split at hE
    case h_1 => exact hE.elim
    rename_i lf hlf
    rcases hs f lf hlf with ⟨fn,H,s,hf,hp⟩ | hx
    case inr => exact ⟨hx.1,fun w0 ρ w vs R hv => hx.2 _ _ _ _ _ hE w0 ρ w vs R hv⟩
    refine ⟨⟨fn,hf,?_,?_⟩,fun w0 ρ w vs R hv => body_calls hf hp (callS_ok hs K) hE R hv⟩
    · unfold preFunc at hp
      split at hp
      · cases hp
      · split at hp
        · cases hp
        · rename_i hb; rw [hb]; rfl
    · unfold preFunc at hp
      split at hp
      · cases hp
      · rename_i hn; exact hn
end
end Lg
