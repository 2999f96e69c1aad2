/- Operations as a whole,regions in listed order. -/
import Derived.Test.YtpoofafddbcnpaaVLgMaps
namespace Lg
open Go Go.RowKit
set_option linter.unusedSimpArgs false
set_option linter.unusedVariables false

/-- What a call of the logical machine stands for. -/
def CallOK (m : Bool) (P : Program) (cs : CallS) : Prop :=
  ∀ f args h Q,cs f args h Q →
    (∃ fn,P.funcs[f]? = some fn ∧ fn.body.isSome = true ∧ fn.name ≠ "runtime.NumGoroutine") ∧
    ∀ (w0 : Ini m) (ρ : List Place) (w : World) (vs : Array Value),Rep w0 ρ h w → VRs ρ vs.toList args →
      Calls P f vs w fun e w' => ∃ v ρ' r h',e = .returned v ∧ Ext ρ ρ' ∧ Rep w0 ρ' h' w' ∧ VR ρ' v r ∧ Q r h'

section
variable {P : Program} {m : Bool} {w0 : Ini m} {ρ : List Place} {h h' : Heap} {w : World} {a : Act} {env : Env} {cs : CallS} {lo : Nat} {l : LV} {QQ : LV → Heap → Prop}

theorem wp_of_sim {o : Oper} (hs : Sim P (execOp a.eval o) w0 ρ w l h') {next : Act → World → Prop} {Q : Exit → Act → World → Prop}
    (hn : ∀ v w' ρ',Ext ρ ρ' → Rep w0 ρ' h' w' → VR ρ' v l → next (a.put o.dst v) w') : o.wp P a w next Q := by
  obtain ⟨v,w',ρ',he,hR,hv,hr⟩ := hs
  unfold Oper.wp
  rcases hr with hr | ⟨hr,rfl⟩
  · rw [hr]; exact hn v w' ρ' he hR hv
  · rw [hr]; exact hn undef w' ρ' he hR hv

theorem wp_of_call {o : Oper} {f : FuncId} {vs : Array Value} {ls : List LV} (hx : (execOp a.eval o).run P w = .ok (.enter f vs) w) (hcf : CallOK m P cs) (hc : cs f ls h QQ) (R : Rep w0 ρ h w) (hv : VRs ρ vs.toList ls)
    {next : Act → World → Prop} {Q : Exit → Act → World → Prop} (hn : ∀ v l h' w' ρ',QQ l h' → Ext ρ ρ' → Rep w0 ρ' h' w' → VR ρ' v l → next (a.put o.dst v) w') : o.wp P a w next Q := by
  unfold Oper.wp
  rw [hx]
  refine ((hcf f ls h QQ hc).2 w0 ρ w vs R hv).mono ?_
  rintro e w' ⟨v,ρ',r,h',rfl,he,hR,hr,hq⟩
  exact hn v r h' w' ρ' hq he hR hr

theorem run_callFunc {f : FuncId} {fn : Func} (hf : P.funcs[f]? = some fn) (hb : fn.body.isSome = true) (hn : fn.name ≠ "runtime.NumGoroutine") (args : Array Value) : (callFunc f args).run P w = .ok (.enter f args) w := by
  obtain ⟨b,hb⟩ := Option.isSome_iff_exists.1 hb
  simp [callFunc,hf,hn,hb]

theorem op_wp {H : Hint} {d : Option Nat} {o : Oper} {lop : LOp} (hp : preOp P o = some lop) (hcf : CallOK m P cs) (E : ER ρ a env) (R : Rep w0 ρ h w) (hE : opS cs (lop.note H d) env h QQ)
    {next : Act → World → Prop} {Q : Exit → Act → World → Prop} (hn : ∀ v l h' w' ρ',QQ l h' → Ext ρ ρ' → Rep w0 ρ' h' w' → VR ρ' v l → next (a.put o.dst v) w') : o.wp P a w next Q := by
  obtain ⟨dst,op,ty,pos,after,guard⟩ := o
  have viaSim : ∀ {op' : LOp},(∃ l h',opE noCall 0 op' env h = some (l,h') ∧ QQ l h') → (∀ l h',opE noCall 0 op' env h = some (l,h') → Sim P (execOp a.eval ⟨dst,op,ty,pos,after,guard⟩) w0 ρ w l h') → Oper.wp P ⟨dst,op,ty,pos,after,guard⟩ a w next Q := by
    intro op' ⟨l,h',h1,hq⟩ hs
    exact wp_of_sim (hs l h' h1) fun v w' ρ' he hR hv => hn v l h' w' ρ' hq he hR hv
  cases op <;> simp only [preOp] at hp <;> first | (cases hp; done) | skip
  case move x =>
    obtain ⟨lx,hx,rfl⟩ := Option.map_eq_some_iff.1 hp
    exact viaSim hE fun _ _ hE => (sim_move hx E R hE)
  case assign x =>
    obtain ⟨lx,hx,rfl⟩ := Option.map_eq_some_iff.1 hp
    exact viaSim hE fun _ _ hE => (sim_move hx E R hE)
  case pick c x y =>
    split at hp
    case h_2 => cases hp
    cases hp
    exact viaSim hE fun _ _ hE => (sim_pick ‹_› ‹_› ‹_› E R hE)
  case alloc e =>
    split at hp
    case h_2 => cases hp
    split at hp
    case isFalse => cases hp
    cases hp
    exact viaSim hE fun _ _ hE => (sim_alloc ‹_› ‹_› E R hE)
  case box t x =>
    obtain ⟨lx,hx,rfl⟩ := Option.map_eq_some_iff.1 hp
    exact viaSim hE fun _ _ hE => (sim_box hx E R hE)
  case build t ps =>
    split at hp
    · rename_i z fs hz hu
      split at hp
      case h_2 => cases hp
      rename_i places hpl
      obtain ⟨lps,hps,rfl⟩ := Option.map_eq_some_iff.1 hp
      refine viaSim hE fun _ _ hE => (sim_build hz ?_ hps E R hE)
      intro v hv
      rw [Option.bind_eq_some_iff] at hv
      obtain ⟨i,hi,hiz⟩ := hv
      funext parts
      simp only [Program.built,hi,hu,hiz,hpl]
    · rename_i z n e hz hu
      split at hp
      case h_2 => cases hp
      rename_i s hs
      obtain ⟨lps,hps,rfl⟩ := Option.map_eq_some_iff.1 hp
      refine viaSim hE fun _ _ hE => (sim_build hz ?_ hps E R hE)
      intro v hv
      rw [Option.bind_eq_some_iff] at hv
      obtain ⟨i,hi,hiz⟩ := hv
      unfold sizeT at hs
      obtain ⟨ie,hie,rfl⟩ := Option.map_eq_some_iff.1 hs
      funext parts
      simp only [Program.built,hi,hu,hiz,hie]
    · cases hp
  case buildSlice t len ps =>
    split at hp
    case h_2 => cases hp
    rename_i e hu
    split at hp
    case h_2 => cases hp
    rename_i s z hs hz
    split at hp
    case isFalse => cases hp
    rename_i hc
    obtain ⟨lps,hps,rfl⟩ := Option.map_eq_some_iff.1 hp
    exact viaSim hE fun _ _ hE => (sim_bslice hu hs hz hc.1 hc.2.1 hc.2.2.1 hc.2.2.2 hps E R hE)
  case load t x =>
    split at hp
    case h_2 => cases hp
    cases hp
    exact viaSim hE fun _ _ hE => (sim_load ‹_› ‹_› ‹_› E R hE)
  case store t x y =>
    split at hp
    case h_2 => cases hp
    cases hp
    exact viaSim hE fun _ _ hE => (sim_store ‹_› ‹_› ‹_› E R hE)
  case nilCheck x =>
    obtain ⟨lx,hx,rfl⟩ := Option.map_eq_some_iff.1 hp
    exact viaSim hE fun _ _ hE => (sim_nilchk hx E R rfl hE)
  case binOp op t x y yt =>
    split at hp
    · rename_i hc
      simp only [preEq] at hp
      split at hp
      case h_2 => cases hp
      cases hp
      exact viaSim hE fun _ _ hE => (sim_eqv hc.1 ‹_› ‹_› ‹_› E R hE)
    · split at hp
      case h_2 => cases hp
      cases hp
      exact viaSim hE fun _ _ hE => (sim_bin ‹_› ‹_› E R hE)
  case unOp op t x =>
    obtain ⟨lx,hx,rfl⟩ := Option.map_eq_some_iff.1 hp
    exact viaSim hE fun _ _ hE => (sim_un hx E R hE)
  case convert s d x =>
    split at hp
    · cases hp; exact viaSim hE fun _ _ hE => (sim_conv ‹_› ‹_› ‹_› E R hE)
    · cases hp; exact viaSim hE fun _ _ hE => (sim_convs ‹_› ‹_› ‹_› E R hE)
    · split at hp
      case h_2 => cases hp
      cases hp; exact viaSim hE fun _ _ hE => (sim_b2s ‹_› ‹_› ‹_› ‹_› E R hE)
    · split at hp
      case h_2 => cases hp
      cases hp; exact viaSim hE fun _ _ hE => (sim_s2b ‹_› ‹_› ‹_› ‹_› E R hE)
    · cases hp
  case makeFunc fn first caps =>
    cases fn <;> simp only [] at hp <;> first | (cases hp; done) | skip
    split at hp
    case isFalse => cases hp
    obtain ⟨lx,hx,rfl⟩ := Option.map_eq_some_iff.1 hp
    exact viaSim hE fun _ _ hE => (sim_mkfunc ‹_› hx E R hE)
  case makeSlice t x y =>
    split at hp
    case h_2 => cases hp
    split at hp
    case h_2 => cases hp
    split at hp
    case isFalse => cases hp
    rename_i hc
    cases hp
    exact viaSim hE fun _ _ hE => (sim_make ‹_› ‹_› ‹_› hc.1 hc.2.1 hc.2.2 ‹_› ‹_› E R hE)
  case slice t x lo' hi mx =>
    split at hp
    · split at hp
      case isFalse => cases hp
      rename_i hmx hm0
      cases hp
      have : mx = none := by
        rcases preO_inv hmx with ⟨rfl,_⟩ | ⟨y,ly,_,rfl,_⟩
        · rfl
        · simp at hm0
      subst this
      exact viaSim hE fun _ _ hE => (sim_slc_str ‹_› ‹_› ‹_› ‹_› E R hE)
    · split at hp
      case h_2 => cases hp
      split at hp
      case isFalse => cases hp
      rename_i hc
      cases hp
      exact viaSim hE fun _ _ hE => (sim_slc ‹_› ‹_› hc.1 hc.2 ‹_› ‹_› ‹_› ‹_› E R hE)
    · rename_i hmx
      split at hp
      case h_2 => cases hp
      split at hp
      case isFalse => cases hp
      rename_i hc
      cases hp
      have : mx = none := by
        rcases preO_inv hmx with ⟨rfl,_⟩ | ⟨y,ly,_,rfl,_⟩
        · rfl
        · simp at hc
      subst this
      exact viaSim hE fun _ _ hE => (sim_slcA ‹_› ‹_› ‹_› ‹_› ‹_› E R hE)
    · cases hp
  case fieldAddr t x i =>
    split at hp
    case h_2 => cases hp
    split at hp
    case h_2 => cases hp
    split at hp
    case h_2 => cases hp
    split at hp
    case isFalse => cases hp
    cases hp
    exact viaSim hE fun _ _ hE => (sim_fieldAddr ‹_› ‹_› ‹_› ‹_› ‹_› E R hE)
  case field t x i =>
    split at hp
    case h_2 => cases hp
    split at hp
    case h_2 => cases hp
    split at hp
    case h_2 => cases hp
    cases hp
    exact viaSim hE fun _ _ hE => (sim_field ‹_› ‹_› ‹_› ‹_› ‹_› E R hE)
  case indexAddr t x i =>
    split at hp
    · split at hp
      case h_2 => cases hp
      cases hp
      exact viaSim hE fun _ _ hE => (sim_indexAddr ‹_› ‹_› ‹_› ‹_› E R hE)
    · split at hp
      case h_2 => cases hp
      cases hp
      exact viaSim hE fun _ _ hE => (sim_indexAddrA ‹_› ‹_› ‹_› ‹_› E R hE)
    · cases hp
  case index t x i =>
    split at hp
    · cases hp
      exact viaSim hE fun _ _ hE => (sim_index ‹_› ‹_› ‹_› E R hE)
    · split at hp
      case h_2 => cases hp
      cases hp
      exact viaSim hE fun _ _ hE => (sim_indexA ‹_› ‹_› ‹_› ‹_› ‹_› E R hE)
    · cases hp
  case extract x i =>
    obtain ⟨lx,hx,rfl⟩ := Option.map_eq_some_iff.1 hp
    exact viaSim hE fun _ _ hE => (sim_extract hx E R hE)
  case makeMap t r =>
    split at hp
    case isFalse => cases hp
    rename_i hr
    cases hp
    cases r with
    | some x => simp at hr
    | none => exact viaSim hE fun _ _ hE => (sim_mkmap E R hE)
  case lookup t x k ok =>
    split at hp
    case h_2 => cases hp
    split at hp
    case h_2 => cases hp
    obtain ⟨z,hz,rfl⟩ := Option.map_eq_some_iff.1 hp
    exact viaSim hE fun _ _ hE => (sim_lookup ‹_› ‹_› ‹_› hz ‹_› ‹_› E R hE)
  case mapUpdate t x k y =>
    split at hp
    case h_2 => cases hp
    split at hp
    case h_2 => cases hp
    cases hp
    exact viaSim hE fun _ _ hE => (sim_update ‹_› ‹_› ‹_› ‹_› ‹_› E R hE)
  case insert t x k y =>
    split at hp
    case h_2 => cases hp
    split at hp
    case h_2 => cases hp
    cases hp
    exact viaSim hE fun _ _ hE => (sim_update ‹_› ‹_› ‹_› ‹_› ‹_› E R hE)
  case call c =>
    obtain ⟨callee,args,argTypes⟩ := c
    unfold preCall at hp
    simp only at hp
    split at hp
    · -- a function by its number
      rename_i f
      split at hp
      case h_2 => cases hp
      rename_i fn xs hf hxs
      split at hp
      case isFalse => cases hp
      rename_i hc
      cases hp
      simp only [LOp.note,opS] at hE
      refine wp_of_call (vs := args.map a.eval) ?_ hcf hE R (preXs_vr E hxs) hn
      have := run_callFunc (P := P) (w := w) hf hc.2 hc.1 (#[] ++ args.map a.eval ++ #[])
      simp only [execOp,resolve,Act.eval,Deferred.ofValue,Sem.run_bind,Sem.run_pure,Result.andThen_ok,invoke]
      simpa using this
    · -- a function value
      rename_i f hnf
      split at hp
      case h_2 => cases hp
      rename_i lf xs hf hxs
      cases hp
      simp only [LOp.note,opS] at hE
      split at hE
      case h_2 => exact hE.elim
      rename_i g caps hg
      have h1 := preX_vr E hf
      rw [hg] at h1
      generalize hev : a.eval f = v at h1
      cases h1 with
      | func _ cs _ hl hh =>
        have hvs : VRs ρ (args.map a.eval ++ cs).toList (xs.map (X.ev env) ++ caps) := by
          have := (preXs_vr E hxs).append (VRs.of_agg hl hh)
          simpa using this
        obtain ⟨⟨fn,hfn,hbd,hnm⟩,_⟩ := hcf g _ h QQ hE
        refine wp_of_call (vs := args.map a.eval ++ cs) ?_ hcf hE R hvs hn
        have := run_callFunc (P := P) (w := w) hfn hbd hnm (#[] ++ args.map a.eval ++ cs)
        simp only [execOp,resolve,hev,Deferred.ofValue,Sem.run_bind,Sem.run_pure,Result.andThen_ok,invoke]
        simpa using this
    · -- len
      split at hp
      case h_2 => cases hp
      rename_i t x ha hxl
      have hx1 : args.map a.eval = #[a.eval x] := by
        apply Array.ext'
        simp [hxl]
      have key : ∀ {op' : LOp},(∃ l h',opE noCall 0 op' env h = some (l,h') ∧ QQ l h') → (∀ l h',opE noCall 0 op' env h = some (l,h') → Sim P (do pure (.value (← Builtin.len_ #[t] ty #[a.eval x]))) w0 ρ w l h') → Oper.wp P ⟨dst,.call ⟨.builtin .len,args,argTypes⟩,ty,pos,after,guard⟩ a w next Q := by
        intro _ hE hrun
        refine viaSim hE fun l h' hE => ?_
        have e1 : Builtin.len_ argTypes ty #[a.eval x] = Builtin.len_ #[t] ty #[a.eval x] := by
          unfold Builtin.len_
          have : argTypes[0]? = (#[t] : Array TypeId)[0]? := by rw [ha]; rfl
          rw [this]
        have e2 : execOp a.eval ⟨dst,.call ⟨.builtin .len,args,argTypes⟩,ty,pos,after,guard⟩ = (do pure (.value (← Builtin.len_ argTypes ty (args.map a.eval)))) := rfl
        rw [e2,hx1,e1]; exact hrun l h' hE
      split at hp
      · cases hp; exact key hE fun _ _ hE => (sim_lenS ‹_› ‹_› E R hE)
      · cases hp; exact key hE fun _ _ hE => (sim_lenL ‹_› ‹_› E R hE)
      · cases hp; exact key hE fun _ _ hE => (sim_lenM ‹_› ‹_› E R hE)
      · cases hp; exact key hE fun _ _ hE => (sim_lenC (.inl ‹_›) E R hE)
      · split at hp
        · cases hp; exact key hE fun _ _ hE => (sim_lenC (.inr ⟨_,‹_›,‹_›⟩) E R hE)
        · cases hp
      · cases hp
    · obtain ⟨lx,hx,rfl⟩ := Option.map_eq_some_iff.1 hp
      exact viaSim hE fun _ _ hE => (sim_min hx E R hE)
    · obtain ⟨lx,hx,rfl⟩ := Option.map_eq_some_iff.1 hp
      exact viaSim hE fun _ _ hE => (sim_max hx E R hE)
    · -- append
      split at hp
      case h_2 => cases hp
      rename_i t u x y htl hxl
      have hx1 : args.map a.eval = #[a.eval x,a.eval y] := by
        apply Array.ext'
        simp [hxl]
      have ht1 : argTypes = #[t,u] := by apply Array.ext'; simp [htl]
      subst ht1
      split at hp
      case h_2 => cases hp
      rename_i e ud lx ly hu1 hu2 hlx hly
      have key : Src ud → ∀ i,P.info? e = some i → i.bytes ≠ 0 → i.size ≠ 0 → i.zero.map (fun z => z.cells.size) = some i.size → lop = .append false i.size i.bytes lx ly → Oper.wp P ⟨dst,.call ⟨.builtin .append,args,#[t,u]⟩,ty,pos,after,guard⟩ a w next Q := by
        intro hs i hi h1 h2 h3 hl
        subst hl
        refine viaSim hE fun l h' hE => ?_
        have e2 : execOp a.eval ⟨dst,.call ⟨.builtin .append,args,#[t,u]⟩,ty,pos,after,guard⟩ = (do pure (.value (← Builtin.append_ #[t,u] ty (args.map a.eval)))) := rfl
        rw [e2,hx1]
        exact sim_append hu1 hu2 hs hi h1 h2 h3 hlx hly E R hE
      split at hp
      · split at hp
        case isFalse => cases hp
        rename_i hc
        cases hp
        exact key (.inr ⟨_,rfl⟩) _ ‹_› hc.2.1 hc.2.2.1 hc.2.2.2 rfl
      · split at hp
        case isFalse => cases hp
        rename_i hc
        cases hp
        exact key (.inl rfl) _ ‹_› hc.2.1 hc.2.2.1 hc.2.2.2 rfl
      · split at hp
        case h_2 => cases hp
        split at hp
        case isFalse => cases hp
        rename_i hc
        cases hp
        refine viaSim hE fun l h' hE => ?_
        have e2 : execOp a.eval ⟨dst,.call ⟨.builtin .append,args,#[t,u]⟩,ty,pos,after,guard⟩ = (do pure (.value (← Builtin.append_ #[t,u] ty (args.map a.eval)))) := rfl
        rw [e2,hx1]
        exact sim_appendZ hu1 hu2 ‹_› ‹_› hc.2.1 hc.2.2.1 hc.2.2.2.1 hc.2.2.2.2 hlx hly E R hE
      · cases hp
    · -- copy
      split at hp
      case h_2 => cases hp
      rename_i t x y ha hxl
      have hx1 : args.map a.eval = #[a.eval x,a.eval y] := by
        apply Array.ext'
        simp [hxl]
      split at hp
      case h_2 => cases hp
      split at hp
      case h_2 => cases hp
      cases hp
      refine viaSim hE fun l h' hE => ?_
      have e1 : Builtin.copy_ argTypes ty #[a.eval x,a.eval y] = Builtin.copy_ #[t,t] ty #[a.eval x,a.eval y] := by
        unfold Builtin.copy_
        have : argTypes[0]? = (#[t,t] : Array TypeId)[0]? := by rw [ha]; rfl
        rw [this]
      have e2 : execOp a.eval ⟨dst,.call ⟨.builtin .copy,args,argTypes⟩,ty,pos,after,guard⟩ = (do pure (.value (← Builtin.copy_ argTypes ty (args.map a.eval)))) := rfl
      rw [e2,hx1,e1]
      exact sim_copy ‹_› ‹_› ‹_› ‹_› E R hE
    · -- cap
      split at hp
      case h_2 => cases hp
      rename_i t x ha hxl
      have hx1 : args.map a.eval = #[a.eval x] := by
        apply Array.ext'
        simp [hxl]
      split at hp
      case h_2 => cases hp
      cases hp
      refine viaSim hE fun l h' hE => ?_
      have e1 : Builtin.cap_ argTypes ty #[a.eval x] = Builtin.cap_ #[t] ty #[a.eval x] := by
        unfold Builtin.cap_
        have : argTypes[0]? = (#[t] : Array TypeId)[0]? := by rw [ha]; rfl
        rw [this]
      have e2 : execOp a.eval ⟨dst,.call ⟨.builtin .cap,args,argTypes⟩,ty,pos,after,guard⟩ = (do pure (.value (← Builtin.cap_ argTypes ty (args.map a.eval)))) := rfl
      rw [e2,hx1,e1]
      exact sim_capL ‹_› ‹_› E R hE
    · -- clear
      split at hp
      case h_2 => cases hp
      rename_i t x ha hxl
      have hx1 : args.map a.eval = #[a.eval x] := by
        apply Array.ext'
        simp [hxl]
      split at hp
      case h_2 => cases hp
      split at hp
      case h_2 => cases hp
      split at hp
      case isFalse => cases hp
      rename_i hc
      cases hp
      refine viaSim hE fun l h' hE => ?_
      have e1 : Builtin.clear_ argTypes ty #[a.eval x] = Builtin.clear_ #[t] ty #[a.eval x] := by
        unfold Builtin.clear_
        have : argTypes[0]? = (#[t] : Array TypeId)[0]? := by rw [ha]; rfl
        rw [this]
      have e2 : execOp a.eval ⟨dst,.call ⟨.builtin .clear,args,argTypes⟩,ty,pos,after,guard⟩ = (do pure (.value (← Builtin.clear_ argTypes ty (args.map a.eval)))) := rfl
      rw [e2,hx1,e1]
      exact sim_clear ‹_› ‹_› hc.1 hc.2.1 hc.2.2 ‹_› E R hE
    · cases hp
end
end Lg
