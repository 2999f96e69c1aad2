/- Calls. -/
import Derived.Test.YtehpimogdcilaaaLgMain
namespace Lg
open Go Go.RowKit
set_option linter.unusedSimpArgs false
set_option linter.unusedVariables false

/-! ### older blocks -/

/-- No block below 'lo' has changed, none has gone. -/
def Low (lo : Nat) (h h' : Heap) : Prop := h.length ≤ h'.length ∧ ∀ n, n < lo → n < h.length → h'[n]? = h[n]?

theorem Low.refl (lo : Nat) (h : Heap) : Low lo h h := ⟨Nat.le_refl _, fun _ _ _ => rfl⟩
theorem Low.trans {lo : Nat} {a b c : Heap} (h : Low lo a b) (k : Low lo b c) : Low lo a c :=
  ⟨Nat.le_trans h.1 k.1, fun n h1 h2 => (k.2 n h1 (Nat.lt_of_lt_of_le h2 h.1)).trans (h.2 n h1 h2)⟩
theorem Low.app (lo : Nat) (h x : Heap) : Low lo h (h ++ x) := ⟨by simp, fun n _ h2 => List.getElem?_append_left h2⟩
theorem Low.set {lo : Nat} {h : Heap} {n : Nat} {b : LBlk} (hl : lo ≤ n) : Low lo h (h.set n b) :=
  ⟨by simp, fun m h1 _ => by rw [List.getElem?_set]; rw [if_neg (by omega)]⟩

def LowOK (cf : CallF) : Prop := ∀ lo f args h r h', cf lo f args h = some (r, h') → Low lo h h'

section
variable {cf : CallF} {lo : Nat} {env env' : Env} {h h' : Heap} {v : LV}

theorem opE_low (hcf : LowOK cf) {op : LOp} (hE : opE cf lo op env h = some (v, h')) : Low lo h h' := by
  cases hc : op.changes with
  | false => rw [(opE_quiet hc hE).1]; exact Low.refl _ _
  | true =>
    cases op <;> simp only [LOp.changes, Bool.false_eq_true] at hc <;> simp only [opE, appendE] at hE <;> (repeat' split at hE) <;> first
      | (cases hE; done)
      | (cases hE; exact Low.app _ _ _)
      | (cases hE; exact Low.refl _ _)
      | (cases hE; exact Low.set (by simp_all))
      | (cases hE; exact (Low.set (by simp_all)).trans (Low.app _ _ _))
      | exact hcf _ _ _ _ _ _ hE

theorem operE_low (hcf : LowOK cf) {o : LOper} (hE : operE cf lo o env h = some (env', h')) : Low lo h h' := by
  unfold operE at hE
  (repeat' split at hE) <;> first
    | (cases hE; done)
    | (cases hE; exact opE_low hcf ‹_›)
    | (cases hE; exact Low.refl _ _)

theorem opsE_low (hcf : LowOK cf) : ∀ (l : List LOper) (env : Env) (h : Heap), opsE cf lo l env h = some (env', h') → Low lo h h'
  | [], env, h, hE => by simp only [opsE, Option.some.injEq, Prod.mk.injEq] at hE; rw [hE.2]; exact Low.refl _ _
  | o :: l, env, h, hE => by
    simp only [opsE] at hE
    split at hE
    case h_2 => cases hE
    rename_i e1 h1 ho
    exact (operE_low hcf ho).trans (opsE_low hcf l e1 h1 hE)

theorem ops_of_trace : ∀ (l : List LOper) (env : Env) (h : Heap) (tr : List (Option Nat × Heap)), traceE cf lo l env h = some (tr, env', h') → opsE cf lo l env h = some (env', h')
  | [], env, h, tr, hE => by simp only [traceE, Option.some.injEq, Prod.mk.injEq] at hE; obtain ⟨_, rfl, rfl⟩ := hE; rfl
  | o :: l, env, h, tr, hE => by
    simp only [traceE] at hE
    split at hE
    case h_2 => cases hE
    rename_i e1 h1 ho
    split at hE
    case h_2 => cases hE
    rename_i tr1 e2 ht
    cases hE
    simp only [opsE, ho]
    exact ops_of_trace l e1 h1 tr1 ht

theorem dopsE_ops {prs : List (Nat × Nat)} {l : List LOper} (hE : dopsE cf lo prs l env h = some (env', h')) : opsE cf lo l env h = some (env', h') := by
  unfold dopsE at hE
  split at hE
  · exact hE
  · split at hE
    case h_2 => cases hE
    rename_i tr e1 h1 ht
    split at hE
    case isFalse => cases hE
    cases hE
    exact ops_of_trace _ _ _ _ ht

theorem codeE_low (hcf : LowOK cf) {K : Nat} : ∀ (c : LCode) (env : Env) (h : Heap) (out : Out) (env' : Env) (h' : Heap), codeE cf lo K c env h = some (out, env', h') → Low lo h h' := by
  intro c
  induction c with
  | skip => intro env h out env' h' hE; simp only [codeE, Option.some.injEq, Prod.mk.injEq] at hE; rw [hE.2.2]; exact Low.refl _ _
  | ops l =>
    intro env h out env' h' hE
    simp only [codeE] at hE
    split at hE
    case h_2 => cases hE
    cases hE
    exact opsE_low hcf l env h ‹_›
  | dops prs l =>
    intro env h out env' h' hE
    simp only [codeE] at hE
    split at hE
    case h_2 => cases hE
    cases hE
    exact opsE_low hcf l env h (dopsE_ops ‹_›)
  | seq a b iha ihb =>
    intro env h out env' h' hE
    simp only [codeE] at hE
    split at hE
    · exact (iha _ _ _ _ _ ‹_›).trans (ihb _ _ _ _ _ hE)
    · exact iha _ _ _ _ _ hE
  | cond c a b iha ihb =>
    intro env h out env' h' hE
    simp only [codeE] at hE
    split at hE
    · split at hE
      · exact iha _ _ _ _ _ hE
      · exact ihb _ _ _ _ _ hE
    · cases hE
  | block id c ih =>
    intro env h out env' h' hE
    simp only [codeE] at hE
    split at hE
    · split at hE <;> (cases hE; exact ih _ _ _ _ _ ‹_›)
    · exact ih _ _ _ _ _ hE
  | loop keep c ih =>
    intro env h out env' h' hE
    simp only [codeE] at hE
    have key : ∀ (k : Nat) (env : Env) (h : Heap), iterE (fun env h => codeE cf lo K c (keepE keep env) h) k env h = some (out, env', h') → Low lo h h' := by
      intro k
      induction k with
      | zero => intro env h hE; cases hE
      | succ k ihk =>
        intro env h hE
        simp only [iterE] at hE
        split at hE
        · exact (ih _ _ _ _ _ ‹_›).trans (ihk _ _ hE)
        · exact ih _ _ _ _ _ hE
    exact key K env h hE
  | exit id => intro env h out env' h' hE; simp only [codeE, Option.some.injEq, Prod.mk.injEq] at hE; rw [hE.2.2]; exact Low.refl _ _
  | ret => intro env h out env' h' hE; simp only [codeE, Option.some.injEq, Prod.mk.injEq] at hE; rw [hE.2.2]; exact Low.refl _ _

theorem bodyE_low (hcf : LowOK cf) {K : Nat} {f : LFunc} {args : List LV} (hE : bodyE cf lo K f args h = some (v, h')) : Low lo h h' := by
  unfold bodyE at hE
  split at hE
  case isFalse => cases hE
  split at hE
  · split at hE
    · cases hE; exact codeE_low hcf _ _ _ _ _ _ ‹_›
    · cases hE
  · split at hE
    · cases hE; exact codeE_low hcf _ _ _ _ _ _ ‹_›
    · cases hE
  · cases hE
end

theorem callE_low (p : LProg) : ∀ K, LowOK (callE p K)
  | 0 => fun lo f args h r h' hE => by cases hE
  | K + 1 => fun lo f args h r h' hE => by
    simp only [callE] at hE
    split at hE
    · cases hE
    · (repeat' split at hE) <;> first
        | (cases hE; done)
        | (cases hE; exact Low.refl _ _)
        | exact bodyE_low (callE_low p K) hE

/-! ### what is left behind a pure call -/

theorem VR.ground {ρ ρ' : List Place} : ∀ (d : Nat) (v : Value) (l : LV), l.groundN d = true → VR ρ' v l → VR ρ v l
  | 0, _, _, h, _ => by simp [LV.groundN] at h
  | d + 1, v, l, h, hv => by
    cases hv with
    | bool b => exact .bool b
    | int k n => exact .int k n
    | str s => exact .str s
    | nilptr => exact .nilptr
    | nilslice => exact .nilslice
    | nilmap => exact .nilmap
    | nilfunc => exact .nilfunc
    | nilif => exact .nilif
    | agg cs ls hl hh =>
      simp only [LV.groundN, List.all_eq_true] at h
      exact .agg cs ls hl fun i v l a b => VR.ground d v l (h l (List.mem_of_getElem? b)) (hh i v l a b)
    | tup cs ls hl hh =>
      simp only [LV.groundN, List.all_eq_true] at h
      exact .tup cs ls hl fun i v l a b => VR.ground d v l (h l (List.mem_of_getElem? b)) (hh i v l a b)
    | _ => simp [LV.groundN] at h

theorem VR.down {ρ ρ' : List Place} (he : Ext ρ ρ') {v0 : Value} {l : LV} (h : VR ρ v0 l) : ∀ {v : Value}, VR ρ' v l → VR ρ v l := by
  induction h with
  | undef v0 => intro v _; exact .undef v
  | bool b => intro v hv; cases hv; exact .bool b
  | int k n => intro v hv; cases hv; exact .int k n
  | str s => intro v hv; generalize hs : s.data.toList = ls at hv ⊢; cases hv; exact .str _
  | ptr h0 => intro v hv; cases hv with | ptr h1 => rw [he _ _ h0] at h1; cases h1; exact .ptr h0
  | nilptr => intro v hv; cases hv; exact .nilptr
  | slice h0 _ _ _ => intro v hv; cases hv with
    | slice h1 hc hx hf => rw [he _ _ h0] at h1; cases h1; exact .slice h0 hc hx hf
    | slice0 a _ _ _ h1 => exact .slice0 a _ _ _ h0
  | slice0 _ _ _ _ h0 => intro v hv; cases hv with
    | slice h1 hc hx hf => rw [he _ _ h0] at h1; cases h1; exact .slice h0 hc hx hf
    | slice0 a _ _ _ h1 => exact .slice0 a _ _ _ h0
  | nilslice => intro v hv; cases hv; exact .nilslice
  | map h0 => intro v hv; cases hv with | map h1 => rw [he _ _ h0] at h1; cases h1; exact .map h0
  | nilmap => intro v hv; cases hv; exact .nilmap
  | func f cs ls hl hh ih => intro v hv; cases hv with
    | func _ cs' _ hl' hh' => exact .func f cs' ls hl' fun i u l a b => ih i _ l (Array.getElem?_eq_getElem (show i < cs.size by rw [hl]; exact lt_of_getElem? b)) b (hh' i u l a b)
  | nilfunc => intro v hv; cases hv; exact .nilfunc
  | iface t _ ih => intro v hv; cases hv with | iface _ h1 => exact .iface t (ih h1)
  | nilif => intro v hv; cases hv; exact .nilif
  | agg cs ls hl hh ih => intro v hv; cases hv with
    | agg cs' _ hl' hh' => exact .agg cs' ls hl' fun i u l a b => ih i _ l (Array.getElem?_eq_getElem (show i < cs.size by rw [hl]; exact lt_of_getElem? b)) b (hh' i u l a b)
  | tup cs ls hl hh ih => intro v hv; cases hv with
    | tup cs' _ hl' hh' => exact .tup cs' ls hl' fun i u l a b => ih i _ l (Array.getElem?_eq_getElem (show i < cs.size by rw [hl]; exact lt_of_getElem? b)) b (hh' i u l a b)

theorem BR.down {ρ ρ' : List Place} {w w' : World} {pl : Place} (he : Ext ρ ρ') {b : LBlk} (h : BR ρ w pl b) (h' : BR ρ' w' pl b) : BR ρ w' pl b := by
  cases b with
  | dead => exact True.intro
  | cells rw cs =>
    obtain ⟨a0, a1, a2, a3⟩ := h
    obtain ⟨b0, b1, b2, b3⟩ := h'
    refine ⟨b0, b1, fun i l hl => ?_, b3⟩
    obtain ⟨v, hv, hr⟩ := b2 i l hl
    obtain ⟨u, hu, hr0⟩ := a2 i l hl
    exact ⟨v, hv, hr0.down he hr⟩
  | map es =>
    obtain ⟨a0, a1, ms, c, a2, a3, a4⟩ := h
    obtain ⟨b0, b1, ms', c', b2, b3, b4⟩ := h'
    refine ⟨b0, b1, ms', c', b2, b3, fun i m e hm he' => ?_⟩
    have hi : i < ms.size := by rw [a3]; exact lt_of_getElem? he'
    have q0 := a4 i ms[i] e (Array.getElem?_eq_getElem hi) he'
    have q1 := b4 i m e hm he'
    exact ⟨q0.1.down he q1.1, q0.2.down he q1.2⟩

theorem Rep.restrict {w0 : World} {ρ ρ' : List Place} {h h' : Heap} {w w' : World} (R : Rep w0 ρ h w) (R' : Rep w0 ρ' h' w') (he : Ext ρ ρ') (hl : Low h.length h h') : Rep w0 ρ h w' := by
  have get : ∀ (n : Nat) (b : LBlk), h[n]? = some b → h'[n]? = some b := fun n b hb => by
    rw [hl.2 n (lt_of_getElem? hb) (lt_of_getElem? hb)]; exact hb
  exact ⟨R.len, R'.below, fun n pl hp => R'.lt n pl (he n pl hp), fun n b pl hb hp => (R.blk n b pl hb hp).down he (R'.blk n b pl (get n b hb) (he n pl hp)), R.own, R.dis⟩

/-! ### calls -/

/-- The logical program is the model's. -/
def PSound (P : Program) (p : LProg) : Prop := ∀ f lf, p f = some lf → ∃ fn s, P.funcs[f]? = some fn ∧ preFunc P fn lf.pure s = some lf

section
variable {P : Program} {w0 : World} {ρ : List Place} {h h' : Heap} {w : World} {a : Act} {env env' : Env} {cf : CallF} {lo : Nat}

theorem run_res {g0 : ResultVar → Sem Value} (hft : ∀ t, g0 (.tmp t) = pure (a.tmps.getD t undef)) (hfc : ∀ x t, g0 (.cell x t) = (do loadVar t (← asAddr (a.tmps.getD x undef)))) {r : ResultVar} {lr : LRes} (hp : preRes P r = some lr) {l : LV} (hE : resE env h lr = some l) (E : ER ρ a env) (R : Rep w0 ρ h w) :
    ∃ v, (g0 r).run P w = .ok v w ∧ VR ρ v l := by
  cases r with
  | tmp t =>
    simp only [preRes, Option.some.injEq] at hp
    subst hp
    simp only [resE, Option.some.injEq] at hE
    subst hE
    exact ⟨_, by rw [hft]; rfl, E.get t⟩
  | cell x t =>
    simp only [preRes] at hp
    split at hp
    case h_2 => cases hp
    rename_i g n hg hn
    cases hp
    simp only [resE] at hE
    split at hE
    case h_2 => cases hE
    rename_i b off hb
    split at hE
    case h_2 => cases hE
    rename_i rw cs hcs
    have h1 := E.get x
    rw [hb] at h1
    obtain ⟨pl, hpl, hv⟩ := h1.ptr_inv
    obtain ⟨u, hu, hr⟩ := run_loadVar_at hg hn R hcs hpl hE
    exact ⟨u, by rw [hfc]; simp [hv, asAddr, hu], hr⟩

theorem run_results {g0 : ResultVar → Sem Value} (hft : ∀ t, g0 (.tmp t) = pure (a.tmps.getD t undef)) (hfc : ∀ x t, g0 (.cell x t) = (do loadVar t (← asAddr (a.tmps.getD x undef)))) : ∀ (rs : List ResultVar) (lrs : List LRes) (ls : List LV), rs.mapM (preRes P) = some lrs → resultsE env h lrs = some ls → ER ρ a env → Rep w0 ρ h w →
    ∃ vs, (rs.mapM g0).run P w = .ok vs w ∧ VRs ρ vs ls
  | [], lrs, ls, hp, hE, E, R => by
    simp at hp; subst hp
    simp only [resultsE, Option.some.injEq] at hE
    subst hE
    exact ⟨[], by simp, .nil ρ⟩
  | r :: rs, lrs, ls, hp, hE, E, R => by
    rw [List.mapM_cons] at hp
    simp only [Option.bind_eq_bind, Option.bind_eq_some_iff, Option.pure_def, Option.some.injEq] at hp
    obtain ⟨lr, hlr, lrs', hlrs, rfl⟩ := hp
    simp only [resultsE] at hE
    split at hE
    case h_2 => cases hE
    rename_i l ls' hl hls
    cases hE
    obtain ⟨v, hv, hr⟩ := run_res hft hfc hlr hl E R
    obtain ⟨vs, hvs, hrs⟩ := run_results hft hfc rs lrs' ls' hlrs hls E R
    refine ⟨v :: vs, ?_, .cons hr hrs⟩
    rw [List.mapM_cons]
    simp only [Sem.run_bind, hv, Result.andThen_ok, hvs, Sem.run_pure]

theorem one_vr {vs : List Value} {ls : List LV} (h : VRs ρ vs ls) : VR ρ (if hz : vs.toArray.size = 1 then vs.toArray[0] else .tuple vs.toArray) (oneOf ls) := by
  match vs, ls, h with
  | [v], [l], h => exact h.2 0 v l rfl rfl
  | [], [], h => exact VRs.tup (cs := #[]) (VRs.nil ρ)
  | v :: u :: vs, l :: k :: ls, h =>
    have : ¬ ((v :: u :: vs).toArray.size = 1) := by simp
    rw [dif_neg this]
    exact VRs.tup (cs := (v :: u :: vs).toArray) (by simpa using h)
  | [], _ :: _, h => have := h.1; simp at this
  | _ :: _, [], h => have := h.1; simp at this
  | [_], _ :: _ :: _, h => have := h.1; simp at this
  | _ :: _ :: _, [_], h => have := h.1; simp at this

theorem body_calls {f : FuncId} {fn : Func} {lf : LFunc} {s : List (List Nat) × List (List (Nat × Nat))} {K : Nat} {args : List LV} {l : LV} (hf : P.funcs[f]? = some fn) (hp : preFunc P fn lf.pure s = some lf) (hcf : CallOK P cf)
    (hE : bodyE cf lo K lf args h = some (l, h')) (R : Rep w0 ρ h w) {vs : Array Value} (hv : VRs ρ vs.toList args) :
    Calls P f vs w fun e w' => ∃ v ρ', e = .returned v ∧ Ext ρ ρ' ∧ Rep w0 ρ' h' w' ∧ VR ρ' v l := by
  unfold preFunc at hp
  split at hp
  · cases hp
  split at hp
  · cases hp
  rename_i c hb
  split at hp
  case h_2 => cases hp
  rename_i lc s' rs hc hrs
  have hp' := Option.some.inj hp
  have e1 : lc = lf.body := congrArg LFunc.body hp'
  have e2 : rs = lf.results := congrArg LFunc.results hp'
  have e3 : fn.ntmps = lf.ntmps := congrArg LFunc.ntmps hp'
  have e4 : fn.params.size + fn.nfree = lf.nargs := congrArg LFunc.nargs hp'
  unfold bodyE at hE
  rw [← e1, ← e2, ← e3, ← e4] at hE
  split at hE
  case isFalse => cases hE
  rename_i hlen
  have hE0 : ER ρ { tmps := vs ++ Array.replicate (fn.ntmps - vs.size) undef, defers := [] } (args ++ List.replicate (fn.ntmps - (fn.params.size + fn.nfree)) (.tup [])) := by
    have hvl : vs.size = fn.params.size + fn.nfree := by have := hv.1; simp at this; omega
    show VRs ρ (vs ++ Array.replicate (fn.ntmps - vs.size) undef).toList _
    rw [Array.toList_append, hvl, Array.toList_replicate]
    exact hv.append (VRs.replicate ρ (VRs.tup (cs := #[]) (VRs.nil ρ)) _)
  have fin : ∀ (out : Out) (env1 : Env) (h1 : Heap), codeE cf lo K lc (args ++ List.replicate (fn.ntmps - (fn.params.size + fn.nfree)) (.tup [])) h = some (out, env1, h1) → (out = .norm ∨ out = .ret) →
      (match resultsE env1 h1 rs with
        | some vs => some (oneOf vs, h1)
        | none => none) = some (l, h') → Calls P f vs w fun e w' => ∃ v ρ', e = .returned v ∧ Ext ρ ρ' ∧ Rep w0 ρ' h' w' ∧ VR ρ' v l := by
    intro out env1 h1 hcode hout hres
    split at hres
    case h_2 => cases hres
    rename_i ls hls
    cases hres
    refine calls_of_wp hf hb (wp_mono (code_wp hcf K c s lc s' hc lo ρ _ _ h w out env1 h' hcode hE0 rfl R) ?_)
    rintro e a1 w1 ⟨rfl, hd, ρ', he, hE', hR⟩
    have hex : ∃ us, (results fn a1.tmps).run P w1 = .ok (if hz : us.toArray.size = 1 then us.toArray[0] else .tuple us.toArray) w1 ∧ VRs ρ' us ls := by
      unfold results
      simp only [Sem.run_bind, Array.mapM_eq_mapM_toList, Sem.run_map]
      generalize hg : (fun (x : ResultVar) => _) = g0
      obtain ⟨us, hus, hru⟩ := run_results (P := P) (g0 := g0) (fun t => by rw [← hg]) (fun x t => by rw [← hg]) fn.results.toList rs ls hrs hls hE' hR
      exact ⟨us, by rw [hus]; rfl, hru⟩
    obtain ⟨us, hrun, hru⟩ := hex
    rcases hout with rfl | rfl
    · exact ⟨hd, _, hrun, _, ρ', rfl, he, hR, one_vr hru⟩
    · exact ⟨hd, _, hrun, _, ρ', rfl, he, hR, one_vr hru⟩
  split at hE
  · rename_i env1 h1 hcode
    exact fin .norm env1 h1 hcode (.inl rfl) hE
  · rename_i env1 h1 hcode
    exact fin .ret env1 h1 hcode (.inr rfl) hE
  · cases hE

theorem callE_ok {p : LProg} (hs : PSound P p) : ∀ K, CallOK P (callE p K)
  | 0 => fun lo f args h r h' hE => by cases hE
  | K + 1 => fun lo f args h r h' hE => by
    simp only [callE] at hE
    split at hE
    case h_1 => cases hE
    rename_i lf hlf
    obtain ⟨fn, s, hf, hp⟩ := hs f lf hlf
    refine ⟨⟨fn, hf, ?_, ?_⟩, fun w0 ρ w vs R hv => ?_⟩
    · unfold preFunc at hp
      split at hp
      · cases hp
      · split at hp
        · cases hp
        · rename_i hb; rw [hb]; rfl
    · unfold preFunc at hp
      split at hp
      · cases hp
      · rename_i hn; exact hn
    · split at hE
      · split at hE
        · -- on a heap of its own
          rename_i hga
          split at hE
          case h_2 => cases hE
          rename_i v h1 hb
          split at hE
          case isFalse => cases hE
          rename_i hg
          cases hE
          have R0 : Rep w [] [] w := ⟨rfl, Below.refl _ _, fun n pl hn => by simp at hn, fun n b pl hn => by simp at hn, fun n b pl hn => by simp at hn, fun n m b c pl pm _ hn => by simp at hn⟩
          have hv0 : VRs [] vs.toList args := ⟨hv.1, fun i u l a b => VR.ground 4 u l (List.all_eq_true.1 hga l (List.mem_of_getElem? b)) (hv.2 i u l a b)⟩
          refine (body_calls hf hp (callE_ok hs K) hb R0 hv0).mono ?_
          rintro e w' ⟨u, ρ', rfl, he, hR', hu⟩
          refine ⟨u, ρ, rfl, Ext.refl ρ, ?_, VR.ground 4 u _ hg hu⟩
          have hbel := hR'.below
          refine ⟨R.len, R.below.trans (hbel.mono R.below.size), fun n pl hn => (R.lt n pl hn).imp (fun h => Nat.lt_of_lt_of_le h hbel.size) id, fun n b pl hn hp => (R.blk n b pl hn hp).keeps (Ext.refl _) ?_, R.own, R.dis⟩
          rcases R.lt n pl hp with hlt | h0
          case inr => exact ⟨fun i hi => by omega, fun i hi => by omega, fun h1 => by omega⟩
          exact ⟨fun i _ => hbel.cell (p := pl.at i) hlt, fun i _ => hbel.frozen (p := pl.at i) hlt, fun _ _ es c hm => by rw [hbel.block _ hlt]; exact hm⟩
        · split at hE
          case h_2 => cases hE
          rename_i v h1 hb
          split at hE
          case isFalse => cases hE
          rename_i hg
          cases hE
          refine (body_calls hf hp (callE_ok hs K) hb R hv).mono ?_
          rintro e w' ⟨u, ρ', rfl, he, hR', hu⟩
          exact ⟨u, ρ, rfl, Ext.refl ρ, R.restrict hR' he (bodyE_low (callE_low p K) hb), VR.ground 4 u _ hg hu⟩
      · exact body_calls hf hp (callE_ok hs K) hE R hv
end
end Lg
