/- Without a bound on rounds and calls. -/
import Derived.Test.YtpoofafddbcnpaaVVgCall
namespace Vg
open Go Lg
set_option linter.unusedSimpArgs false
set_option linter.unusedVariables false

def Mono {α : Type} (f : Nat → Option α) : Prop := ∀ k r,f k = some r → f (k + 1) = some r
theorem Mono.le {α : Type} {f : Nat → Option α} (hf : Mono f) {k j : Nat} {r : α} (h : f k = some r) (hj : k ≤ j) : f j = some r := by
  induction j with
  | zero => have : k = 0 := by omega
            subst this; exact h
  | succ j ih =>
    by_cases he : k = j + 1
    · subst he; exact h
    · exact hf j r (ih (by omega))

open Classical in
/-- The value from some bound on. -/
noncomputable def limO {α : Type} (f : Nat → Option α) : Option α := if h : ∃ r k,f k = some r then some (Classical.choose h) else none

theorem limO_some {α : Type} {f : Nat → Option α} (hf : Mono f) {r : α} : limO f = some r ↔ ∃ k,f k = some r := by
  unfold limO
  constructor
  · intro h
    split at h
    · rename_i hex
      cases h
      exact Classical.choose_spec hex
    · cases h
  · intro ⟨k,hk⟩
    have hex : ∃ r k,f k = some r := ⟨r,k,hk⟩
    rw [dif_pos hex]
    obtain ⟨j,hj⟩ := Classical.choose_spec hex
    rcases Nat.le_total k j with hle | hle
    · have := hf.le hk hle; rw [hj] at this; exact this
    · have := hf.le hj hle; rw [hk] at this; exact this.symm ▸ rfl

/-- From some bound on. -/
def Ev (q : Nat → Prop) : Prop := ∃ K0,∀ K,K0 ≤ K → q K
theorem Ev.and {q r : Nat → Prop} (h : Ev q) (k : Ev r) : Ev fun K => q K ∧ r K := by
  obtain ⟨a,ha⟩ := h
  obtain ⟨b,hb⟩ := k
  exact ⟨max a b,fun K hK => ⟨ha K (by omega),hb K (by omega)⟩⟩
theorem Ev.of {q : Nat → Prop} (h : ∀ K,q K) : Ev q := ⟨0,fun K _ => h K⟩
theorem Ev.imp {q r : Nat → Prop} (h : Ev q) (hi : ∀ K,q K → r K) : Ev r := by
  obtain ⟨a,ha⟩ := h
  exact ⟨a,fun K hK => hi K (ha K hK)⟩


def LeV (cf cf' : VCall) : Prop := ∀ lo f args h r,cf lo f args h = some r → cf' lo f args h = some r

section
variable {cf cf' : VCall} {lo : Nat}

theorem opV_leF (hc : LeV cf cf') {op : LOp} {env : VEnv} {h : VHeap} {r : VV × VHeap} (hE : opV cf lo op env h = some r) : opV cf' lo op env h = some r := by
  cases op <;> first
    | exact hE
    | skip
  case call pu f args =>
    simp only [opV] at hE ⊢
    split at hE
    · rename_i hp
      rw [if_pos hp]
      cases hx : cf 0 f (nrmL (args.map (vs env))) [] with
      | none => rw [hx] at hE; cases hE
      | some x => rw [hx] at hE; rw [hc _ _ _ _ _ hx]; exact hE
    · rename_i hp
      rw [if_neg hp]; exact hc _ _ _ _ _ hE
  case callv f args =>
    simp only [opV] at hE ⊢
    cases hv : vr env f <;> rw [hv] at hE <;> simp only at hE ⊢ <;> first | (cases hE; done) | exact hc _ _ _ _ _ hE

theorem operV_leF (hc : LeV cf cf') {o : LOper} {env : VEnv} {h : VHeap} {r : VEnv × VHeap} (hE : operV cf lo o env h = some r) : operV cf' lo o env h = some r := by
  unfold operV at hE ⊢
  have one : ∀ r,(match opV cf lo o.op env h with
      | some (v,h') => some (putV (post o.op env h) o.dst v,h')
      | none => none) = some r → (match opV cf' lo o.op env h with
      | some (v,h') => some (putV (post o.op env h) o.dst v,h')
      | none => none) = some r := by
    intro r hr
    cases hx : opV cf lo o.op env h with
    | none => rw [hx] at hr; cases hr
    | some x => rw [hx] at hr; rw [opV_leF hc hx]; exact hr
  cases hg : o.guard with
  | none => rw [hg] at hE; exact one r hE
  | some g =>
    obtain ⟨g,want⟩ := g
    rw [hg] at hE
    simp only at hE ⊢
    cases hv : env.getD g .undef <;> rw [hv] at hE <;> simp only at hE ⊢ <;> first | (cases hE; done) | exact hE | skip
    rename_i b
    by_cases hb : b = want
    · rw [if_pos hb] at hE ⊢; exact one r hE
    · rw [if_neg hb] at hE ⊢; exact hE

theorem opsV_leF (hc : LeV cf cf') : ∀ (l : List LOper) (env : VEnv) (h : VHeap) (r : VEnv × VHeap),opsV cf lo l env h = some r → opsV cf' lo l env h = some r
  | [],env,h,r,hE => hE
  | o :: l,env,h,r,hE => by
    simp only [opsV] at hE ⊢
    cases hx : operV cf lo o env h with
    | none => rw [hx] at hE; cases hE
    | some x => rw [hx] at hE; rw [operV_leF hc hx]; exact opsV_leF hc l _ _ r hE

theorem opsW_leF (hc : LeV cf cf') {wl : List Nat} : ∀ (l : List LOper) (env : VEnv) (h : VHeap) (r : VEnv × VHeap),opsW cf lo wl l env h = some r → opsW cf' lo wl l env h = some r
  | [],env,h,r,hE => hE
  | o :: l,env,h,r,hE => by
    simp only [opsW] at hE ⊢
    cases hx : operV cf lo o env h with
    | none => rw [hx] at hE; cases hE
    | some x =>
      rw [hx] at hE; rw [operV_leF hc hx]
      simp only at hE ⊢
      split at hE
      · rename_i hq; rw [if_pos hq]; exact opsW_leF hc l _ _ r hE
      · cases hE
theorem opsZd_leF (hc : LeV cf cf') {bs : List Nat} {l : List LOper} {env : VEnv} {h : VHeap} {r : VEnv × VHeap} (hE : opsZd cf lo bs l env h = some r) : opsZd cf' lo bs l env h = some r := by
  unfold opsZd at hE ⊢
  split at hE
  case h_2 => cases hE
  rename_i a b hp
  split at hE
  case isFalse => cases hE
  rename_i hd
  rw [if_pos hd]
  unfold opsZ at hE ⊢
  cases h1 : opsW cf lo (rootsV (ldTs l) env l) l env h with
  | none => rw [h1] at hE; cases hE
  | some x =>
    rw [h1] at hE; rw [opsW_leF hc l _ _ x h1]
    simp only at hE ⊢
    cases h2 : opsW cf lo (rootsV (ldTs (moveBk a b l)) env (moveBk a b l)) (moveBk a b l) env h with
    | none => rw [h2] at hE; cases hE
    | some y => rw [h2] at hE; rw [opsW_leF hc (moveBk a b l) _ _ y h2]; exact hE
theorem opsYd_leF (hc : LeV cf cf') {bs : List Nat} {l : List LOper} {env : VEnv} {h : VHeap} {r : VEnv × VHeap} (hE : opsYd cf lo bs l env h = some r) : opsYd cf' lo bs l env h = some r := by
  unfold opsYd at hE ⊢
  split at hE
  case h_2 => exact opsZd_leF hc hE
  rename_i a b hp
  split at hE
  case isFalse => cases hE
  rename_i hd
  rw [if_pos hd]
  unfold opsY at hE ⊢
  cases h1 : opsW cf lo (rootsV (ldTs l) env l) l env h with
  | none => rw [h1] at hE; cases hE
  | some x =>
    rw [h1] at hE; rw [opsW_leF hc l _ _ x h1]
    simp only at hE ⊢
    cases h2 : opsW cf lo (rootsV (ldTs (moveTo a b l)) env (moveTo a b l)) (moveTo a b l) env h with
    | none => rw [h2] at hE; cases hE
    | some y => rw [h2] at hE; rw [opsW_leF hc (moveTo a b l) _ _ y h2]; exact hE
theorem dopsV_leF (hc : LeV cf cf') {bs : List Nat} {l : List LOper} {env : VEnv} {h : VHeap} {r : VEnv × VHeap} (hE : dopsV cf lo bs l env h = some r) : dopsV cf' lo bs l env h = some r := by
  unfold dopsV at hE ⊢
  split at hE
  · rename_i hd; rw [if_pos hd]; exact opsV_leF hc l _ _ r hE
  · rename_i hd
    rw [if_neg hd]
    split at hE
    · rename_i hd; rw [if_pos hd]; exact opsW_leF hc l _ _ r hE
    · rename_i hd2
      rw [if_neg hd2]
      cases hp : badPair bs l with
      | none => rw [hp] at hE; exact opsYd_leF hc hE
      | some ab =>
        rw [hp] at hE
        obtain ⟨a,b⟩ := ab
        simp only at hE ⊢
        split at hE
        · rename_i hd3
          rw [if_pos hd3]
          unfold opsX at hE ⊢
          cases h1 : opsV cf lo l env h with
          | none => rw [h1] at hE; cases hE
          | some x =>
            rw [h1] at hE; rw [opsV_leF hc l _ _ x h1]
            simp only at hE ⊢
            cases h2 : opsV cf lo (moveTo a b l) env h with
            | none => rw [h2] at hE; cases hE
            | some y => rw [h2] at hE; rw [opsV_leF hc (moveTo a b l) _ _ y h2]; exact hE
        · rename_i hd3
          rw [if_neg hd3]
          exact opsYd_leF hc hE

def LeB (b b' : VEnv → VHeap → Option (Out × VEnv × VHeap)) : Prop := ∀ env h r,b env h = some r → b' env h = some r

theorem iterV_le {keep : List Nat} {b b' : VEnv → VHeap → Option (Out × VEnv × VHeap)} (hb : LeB b b') : ∀ (k j : Nat) (env : VEnv) (h : VHeap) (r : Out × VEnv × VHeap),k ≤ j → iterV keep b k env h = some r → iterV keep b' j env h = some r
  | 0,_,_,_,_,_,hE => by cases hE
  | k + 1,0,_,_,_,hle,_ => by omega
  | k + 1,j + 1,env,h,r,hle,hE => by
    simp only [iterV] at hE ⊢
    cases hx : b (keepV keep env) h with
    | none => rw [hx] at hE; cases hE
    | some x =>
      rw [hx] at hE; rw [hb _ _ _ hx]
      obtain ⟨o,e,h1⟩ := x
      cases o
      · exact iterV_le hb k j _ _ r (by omega) hE
      · exact hE
      · exact hE

theorem codeV_le (hc : LeV cf cf') {K K' : Nat} (hK : K ≤ K') : ∀ (c : LCode),LeB (codeV cf lo K c) (codeV cf' lo K' c) := by
  intro c
  induction c with
  | skip => intro env h r hE; exact hE
  | ops l =>
    intro env h r hE
    simp only [codeV] at hE ⊢
    cases hx : opsV cf lo l env h with
    | none => rw [hx] at hE; cases hE
    | some x => rw [hx] at hE; rw [opsV_leF hc l _ _ x hx]; exact hE
  | dops bs l =>
    intro env h r hE
    simp only [codeV] at hE ⊢
    cases hx : dopsV cf lo bs l env h with
    | none => rw [hx] at hE; cases hE
    | some x => rw [hx] at hE; rw [dopsV_leF hc hx]; exact hE
  | seq a b iha ihb =>
    intro env h r hE
    simp only [codeV] at hE ⊢
    cases hx : codeV cf lo K a env h with
    | none => rw [hx] at hE; cases hE
    | some x =>
      rw [hx] at hE; rw [iha _ _ _ hx]
      obtain ⟨o,e,h1⟩ := x
      cases o
      · exact ihb _ _ _ hE
      · exact hE
      · exact hE
  | cond c a b iha ihb =>
    intro env h r hE
    simp only [codeV] at hE ⊢
    cases hv : vr env c <;> rw [hv] at hE <;> simp only at hE ⊢ <;> first | (cases hE; done) | skip
    split at hE
    · rw [if_pos ‹_›]; exact iha _ _ _ hE
    · rw [if_neg ‹_›]; exact ihb _ _ _ hE
  | block id c ih =>
    intro env h r hE
    simp only [codeV] at hE ⊢
    cases hx : codeV cf lo K c env h with
    | none => rw [hx] at hE; cases hE
    | some x => rw [hx] at hE; rw [ih _ _ _ hx]; exact hE
  | loop keep c ih =>
    intro env h r hE
    simp only [codeV] at hE ⊢
    exact iterV_le (fun env h r hb => ih _ _ _ hb) K K' env h r hK hE
  | exit id => intro env h r hE; exact hE
  | ret => intro env h r hE; exact hE

theorem bodyV_le (hc : LeV cf cf') {K K' : Nat} (hK : K ≤ K') {f : VFunc} {args : List VV} {h : VHeap} {r : VV × VHeap} (hE : bodyV cf lo K f args h = some r) : bodyV cf' lo K' f args h = some r := by
  unfold bodyV at hE ⊢
  split at hE
  · rw [if_pos ‹_›]
    cases hx : codeV cf lo K f.fn.body (args ++ List.replicate (f.fn.ntmps - f.fn.nargs) (.tup [])) h with
    | none => rw [hx] at hE; cases hE
    | some x => rw [hx] at hE; rw [codeV_le hc hK _ _ _ _ hx]; exact hE
  · cases hE
end

theorem callV_W (p : VProg) (K : Nat) : callV p (K + 1) = callW p fun lo fn args h => bodyV (callV p K) lo (K + 1) fn args h := rfl
theorem callW_le {p : VProg} {b b' : Nat → VFunc → List VV → VHeap → Option (VV × VHeap)} (hb : ∀ lo fn args h r,b lo fn args h = some r → b' lo fn args h = some r) : LeV (callW p b) (callW p b') := by
  intro lo f args h r hE
  simp only [callW] at hE ⊢
  cases hp : p f with
  | none => rw [hp] at hE; cases hE
  | some fn =>
    rw [hp] at hE
    simp only at hE ⊢
    split at hE
    · rename_i hpu
      rw [if_pos hpu]
      cases hs : snapL h args with
      | none => rw [hs] at hE; cases hE
      | some as =>
        rw [hs] at hE
        simp only at hE ⊢
        by_cases hl : lowL 0 as = true
        · simp only [if_pos hl] at hE ⊢
          cases hx : b 0 fn as [] with
          | none => rw [hx] at hE; cases hE
          | some x => rw [hx] at hE; rw [hb _ _ _ _ _ hx]; exact hE
        · simp only [if_neg hl] at hE ⊢
          cases hx : b h.length fn as h with
          | none => rw [hx] at hE; cases hE
          | some x => rw [hx] at hE; rw [hb _ _ _ _ _ hx]; exact hE
    · rename_i hpu
      rw [if_neg hpu]; exact hb _ _ _ _ _ hE

theorem callV_mono (p : VProg) : ∀ K,LeV (callV p K) (callV p (K + 1))
  | 0 => fun lo f args h r hE => by cases hE
  | K + 1 => by
    rw [callV_W,callV_W]
    exact callW_le fun lo fn args h r hb => bodyV_le (callV_mono p K) (by omega) hb

/-! ### the unbounded machine -/

noncomputable def iterVL (keep : List Nat) (b : VEnv → VHeap → Option (Out × VEnv × VHeap)) (env : VEnv) (h : VHeap) : Option (Out × VEnv × VHeap) := limO fun k => iterV keep b k env h

theorem iter_mono (keep : List Nat) (b : VEnv → VHeap → Option (Out × VEnv × VHeap)) (env : VEnv) (h : VHeap) : Mono fun k => iterV keep b k env h :=
  fun k r hk => iterV_le (fun _ _ _ h => h) k (k + 1) env h r (by omega) hk

theorem iterVL_some {keep : List Nat} {b : VEnv → VHeap → Option (Out × VEnv × VHeap)} {env : VEnv} {h : VHeap} {r : Out × VEnv × VHeap} : iterVL keep b env h = some r ↔ ∃ k,iterV keep b k env h = some r := limO_some (iter_mono keep b env h)

noncomputable def codeVL (cf : VCall) (lo : Nat) : LCode → VEnv → VHeap → Option (Out × VEnv × VHeap)
  | .skip,env,h => some (.norm,env,h)
  | .ops l,env,h => match opsV cf lo l env h with
    | some (env',h') => some (.norm,env',h')
    | none => none
  | .dops bs l,env,h => match dopsV cf lo bs l env h with
    | some (env',h') => some (.norm,env',h')
    | none => none
  | .seq a b,env,h => match codeVL cf lo a env h with
    | some (.norm,env',h') => codeVL cf lo b env' h'
    | r => r
  | .cond c a b,env,h => match vr env c with
    | .bool t => if t then codeVL cf lo a env h else codeVL cf lo b env h
    | _ => none
  | .block id c,env,h => match codeVL cf lo c env h with
    | some (.exit j,env',h') => if j = id then some (.norm,env',h') else some (.exit j,env',h')
    | r => r
  | .loop keep c,env,h => iterVL keep (fun env h => codeVL cf lo c env h) env h
  | .exit id,env,h => some (.exit id,env,h)
  | .ret,env,h => some (.ret,env,h)

/-- The end of a body. -/
def endV (f : VFunc) (base : Nat) : Out × VEnv × VHeap → Option (VV × VHeap)
  | (.exit _,_,_) => none
  | (_,env,h') => match ressV env h' f.fn.results with
    | some vs => backV f base (oneV vs) h'
    | none => none
noncomputable def bodyVL (cf : VCall) (lo : Nat) (f : VFunc) (args : List VV) (h : VHeap) : Option (VV × VHeap) :=
  if args.length = f.fn.nargs then (codeVL cf lo f.fn.body (args ++ List.replicate (f.fn.ntmps - f.fn.nargs) (.tup [])) h).bind (endV f h.length) else none

noncomputable def callVL (p : VProg) : VCall := fun lo f args h => limO fun K => callV p K lo f args h

theorem call_mono (p : VProg) (lo : Nat) (f : FuncId) (args : List VV) (h : VHeap) : Mono fun K => callV p K lo f args h := fun K r hk => callV_mono p K lo f args h r hk

theorem callVL_some {p : VProg} {lo : Nat} {f : FuncId} {args : List VV} {h : VHeap} {r : VV × VHeap} : callVL p lo f args h = some r ↔ ∃ K,callV p K lo f args h = some r := limO_some (call_mono p lo f args h)

section
variable {p : VProg} {lo : Nat}

theorem call_ev {f : FuncId} {args : List VV} {h : VHeap} {r : VV × VHeap} (hE : callVL p lo f args h = some r) : Ev fun K => callV p K lo f args h = some r := by
  obtain ⟨K0,hk⟩ := callVL_some.1 hE
  exact ⟨K0,fun K hK => (call_mono p lo f args h).le hk hK⟩

theorem op_ev {op : LOp} {env : VEnv} {h : VHeap} {r : VV × VHeap} (hE : opV (callVL p) lo op env h = some r) : Ev fun K => opV (callV p K) lo op env h = some r := by
  cases op <;> first
    | exact Ev.of fun K => hE
    | skip
  case call pu f args =>
    simp only [opV] at hE ⊢
    split at hE
    · rename_i hp
      simp only [if_pos hp]
      cases hx : callVL p 0 f (nrmL (args.map (vs env))) [] with
      | none => rw [hx] at hE; cases hE
      | some x => rw [hx] at hE; exact (call_ev hx).imp fun K hK => by rw [hK]; exact hE
    · rename_i hp
      simp only [if_neg hp]; exact call_ev hE
  case callv f args =>
    simp only [opV] at hE ⊢
    cases hv : vr env f <;> rw [hv] at hE <;> simp only at hE ⊢ <;> first | (cases hE; done) | exact call_ev hE

theorem oper_ev {o : LOper} {env : VEnv} {h : VHeap} {r : VEnv × VHeap} (hE : operV (callVL p) lo o env h = some r) : Ev fun K => operV (callV p K) lo o env h = some r := by
  unfold operV at hE ⊢
  have one : ∀ r,(match opV (callVL p) lo o.op env h with
      | some (v,h') => some (putV (post o.op env h) o.dst v,h')
      | none => none) = some r → Ev fun K => (match opV (callV p K) lo o.op env h with
      | some (v,h') => some (putV (post o.op env h) o.dst v,h')
      | none => none) = some r := by
    intro r hr
    cases hx : opV (callVL p) lo o.op env h with
    | none => rw [hx] at hr; cases hr
    | some x => rw [hx] at hr; exact (op_ev hx).imp fun K hK => by rw [hK]; exact hr
  cases hg : o.guard with
  | none => rw [hg] at hE; exact one r hE
  | some g =>
    obtain ⟨g,want⟩ := g
    rw [hg] at hE
    simp only at hE ⊢
    cases hv : env.getD g .undef <;> rw [hv] at hE <;> simp only at hE ⊢ <;> first | (cases hE; done) | exact Ev.of fun _ => hE | skip
    rename_i b
    by_cases hb : b = want
    · simp only [if_pos hb] at hE ⊢; exact one r hE
    · simp only [if_neg hb] at hE ⊢; exact Ev.of fun _ => hE

theorem ops_ev : ∀ (l : List LOper) (env : VEnv) (h : VHeap) (r : VEnv × VHeap),opsV (callVL p) lo l env h = some r → Ev fun K => opsV (callV p K) lo l env h = some r
  | [],env,h,r,hE => Ev.of fun _ => hE
  | o :: l,env,h,r,hE => by
    simp only [opsV] at hE ⊢
    cases hx : operV (callVL p) lo o env h with
    | none => rw [hx] at hE; cases hE
    | some x => rw [hx] at hE; exact ((oper_ev hx).and (ops_ev l _ _ r hE)).imp fun K hK => by rw [hK.1]; exact hK.2

theorem opsW_ev {wl : List Nat} : ∀ (l : List LOper) (env : VEnv) (h : VHeap) (r : VEnv × VHeap),opsW (callVL p) lo wl l env h = some r → Ev fun K => opsW (callV p K) lo wl l env h = some r
  | [],env,h,r,hE => Ev.of fun _ => hE
  | o :: l,env,h,r,hE => by
    simp only [opsW] at hE ⊢
    cases hx : operV (callVL p) lo o env h with
    | none => rw [hx] at hE; cases hE
    | some x =>
      rw [hx] at hE
      simp only at hE
      split at hE
      · rename_i hq
        exact ((oper_ev hx).and (opsW_ev l _ _ r hE)).imp fun K hK => by rw [hK.1]; simp only [if_pos hq]; exact hK.2
      · cases hE
theorem opsZd_ev {bs : List Nat} {l : List LOper} {env : VEnv} {h : VHeap} {r : VEnv × VHeap} (hE : opsZd (callVL p) lo bs l env h = some r) : Ev fun K => opsZd (callV p K) lo bs l env h = some r := by
  unfold opsZd at hE ⊢
  split at hE
  case h_2 => cases hE
  rename_i a b hp
  split at hE
  case isFalse => cases hE
  rename_i hd
  simp only [if_pos hd]
  unfold opsZ at hE ⊢
  cases h1 : opsW (callVL p) lo (rootsV (ldTs l) env l) l env h with
  | none => rw [h1] at hE; cases hE
  | some x =>
    rw [h1] at hE
    simp only at hE
    cases h2 : opsW (callVL p) lo (rootsV (ldTs (moveBk a b l)) env (moveBk a b l)) (moveBk a b l) env h with
    | none => rw [h2] at hE; cases hE
    | some y =>
      rw [h2] at hE
      simp only at hE
      exact ((opsW_ev l _ _ x h1).and (opsW_ev (moveBk a b l) _ _ y h2)).imp fun K hK => by rw [hK.1,hK.2]; exact hE
theorem opsYd_ev {bs : List Nat} {l : List LOper} {env : VEnv} {h : VHeap} {r : VEnv × VHeap} (hE : opsYd (callVL p) lo bs l env h = some r) : Ev fun K => opsYd (callV p K) lo bs l env h = some r := by
  unfold opsYd at hE ⊢
  split at hE
  case h_2 => exact opsZd_ev hE
  rename_i a b hp
  split at hE
  case isFalse => cases hE
  rename_i hd
  simp only [if_pos hd]
  unfold opsY at hE ⊢
  cases h1 : opsW (callVL p) lo (rootsV (ldTs l) env l) l env h with
  | none => rw [h1] at hE; cases hE
  | some x =>
    rw [h1] at hE
    simp only at hE
    cases h2 : opsW (callVL p) lo (rootsV (ldTs (moveTo a b l)) env (moveTo a b l)) (moveTo a b l) env h with
    | none => rw [h2] at hE; cases hE
    | some y =>
      rw [h2] at hE
      simp only at hE
      exact ((opsW_ev l _ _ x h1).and (opsW_ev (moveTo a b l) _ _ y h2)).imp fun K hK => by rw [hK.1,hK.2]; exact hE
theorem dopsV_ev {bs : List Nat} {l : List LOper} {env : VEnv} {h : VHeap} {r : VEnv × VHeap} (hE : dopsV (callVL p) lo bs l env h = some r) : Ev fun K => dopsV (callV p K) lo bs l env h = some r := by
  unfold dopsV at hE ⊢
  split at hE
  · rename_i hd; simp only [if_pos hd]; exact ops_ev l _ _ r hE
  · rename_i hd
    simp only [if_neg hd]
    split at hE
    · rename_i hd; simp only [if_pos hd]; exact opsW_ev l _ _ r hE
    · rename_i hd2
      simp only [if_neg hd2]
      cases hp : badPair bs l with
      | none => rw [hp] at hE; exact opsYd_ev hE
      | some ab =>
        rw [hp] at hE
        obtain ⟨a,b⟩ := ab
        simp only at hE ⊢
        split at hE
        · rename_i hd3
          simp only [if_pos hd3]
          unfold opsX at hE ⊢
          cases h1 : opsV (callVL p) lo l env h with
          | none => rw [h1] at hE; cases hE
          | some x =>
            rw [h1] at hE
            simp only at hE
            cases h2 : opsV (callVL p) lo (moveTo a b l) env h with
            | none => rw [h2] at hE; cases hE
            | some y =>
              rw [h2] at hE
              simp only at hE
              exact ((ops_ev l _ _ x h1).and (ops_ev (moveTo a b l) _ _ y h2)).imp fun K hK => by rw [hK.1,hK.2]; exact hE
        · rename_i hd3
          simp only [if_neg hd3]
          exact opsYd_ev hE

theorem code_ev : ∀ (c : LCode) (env : VEnv) (h : VHeap) (r : Out × VEnv × VHeap),codeVL (callVL p) lo c env h = some r → Ev fun K => codeV (callV p K) lo K c env h = some r := by
  intro c
  induction c with
  | skip => intro env h r hE; exact Ev.of fun _ => hE
  | ops l =>
    intro env h r hE
    simp only [codeVL] at hE; simp only [codeV]
    cases hx : opsV (callVL p) lo l env h with
    | none => rw [hx] at hE; cases hE
    | some x => rw [hx] at hE; exact (ops_ev l _ _ x hx).imp fun K hK => by rw [hK]; exact hE
  | dops bs l =>
    intro env h r hE
    simp only [codeVL] at hE; simp only [codeV]
    cases hx : dopsV (callVL p) lo bs l env h with
    | none => rw [hx] at hE; cases hE
    | some x => rw [hx] at hE; exact (dopsV_ev hx).imp fun K hK => by rw [hK]; exact hE
  | seq a b iha ihb =>
    intro env h r hE
    simp only [codeVL] at hE; simp only [codeV]
    cases hx : codeVL (callVL p) lo a env h with
    | none => rw [hx] at hE; cases hE
    | some x =>
      rw [hx] at hE
      obtain ⟨o,e,h1⟩ := x
      cases o
      · exact ((iha _ _ _ hx).and (ihb _ _ _ hE)).imp fun K hK => by rw [hK.1]; exact hK.2
      · exact (iha _ _ _ hx).imp fun K hK => by rw [hK]; exact hE
      · exact (iha _ _ _ hx).imp fun K hK => by rw [hK]; exact hE
  | cond c a b iha ihb =>
    intro env h r hE
    simp only [codeVL] at hE; simp only [codeV]
    cases hv : vr env c <;> rw [hv] at hE <;> simp only at hE ⊢ <;> first | (cases hE; done) | skip
    split at hE
    · simp only [if_pos ‹_ = true›]; exact iha _ _ _ hE
    · simp only [if_neg ‹¬ _›]; exact ihb _ _ _ hE
  | block id c ih =>
    intro env h r hE
    simp only [codeVL] at hE; simp only [codeV]
    cases hx : codeVL (callVL p) lo c env h with
    | none => rw [hx] at hE; cases hE
    | some x => rw [hx] at hE; exact (ih _ _ _ hx).imp fun K hK => by rw [hK]; exact hE
  | loop keep c ih =>
    intro env h r hE
    simp only [codeVL] at hE; simp only [codeV]
    obtain ⟨k,hk⟩ := iterVL_some.1 hE
    have key : ∀ (k : Nat) (env : VEnv) (h : VHeap),iterV keep (fun env h => codeVL (callVL p) lo c env h) k env h = some r → Ev fun K => iterV keep (fun env h => codeV (callV p K) lo K c env h) k env h = some r := by
      intro k
      induction k with
      | zero => intro env h hk; cases hk
      | succ k ihk =>
        intro env h hk
        simp only [iterV] at hk ⊢
        cases hx : codeVL (callVL p) lo c (keepV keep env) h with
        | none => rw [hx] at hk; cases hk
        | some x =>
          rw [hx] at hk
          obtain ⟨o,e,h1⟩ := x
          cases o
          · exact ((ih _ _ _ hx).and (ihk _ _ hk)).imp fun K hK => by rw [hK.1]; exact hK.2
          · exact (ih _ _ _ hx).imp fun K hK => by rw [hK]; exact hk
          · exact (ih _ _ _ hx).imp fun K hK => by rw [hK]; exact hk
    obtain ⟨K0,h0⟩ := key k env h hk
    exact ⟨max K0 k,fun K hK => iterV_le (fun _ _ _ h => h) k K env h r (by omega) (h0 K (by omega))⟩
  | exit id => intro env h r hE; exact Ev.of fun _ => hE
  | ret => intro env h r hE; exact Ev.of fun _ => hE

theorem body_ev {f : VFunc} {args : List VV} {h : VHeap} {r : VV × VHeap} (hE : bodyVL (callVL p) lo f args h = some r) : Ev fun K => bodyV (callV p K) lo (K + 1) f args h = some r := by
  unfold bodyVL at hE
  split at hE
  · rename_i ha
    cases hx : codeVL (callVL p) lo f.fn.body (args ++ List.replicate (f.fn.ntmps - f.fn.nargs) (.tup [])) h with
    | none => rw [hx] at hE; cases hE
    | some x =>
      rw [hx] at hE
      refine (code_ev _ _ _ x hx).imp fun K hK => ?_
      unfold bodyV
      rw [if_pos ha,codeV_le (fun _ _ _ _ _ h => h) (show K ≤ K + 1 by omega) _ _ _ _ hK]
      obtain ⟨o,e,h1⟩ := x
      cases o <;> simp only [Option.bind_some,endV] at hE ⊢ <;> exact hE
  · cases hE

/-- A call. -/
theorem callVL_of {f : FuncId} {args : List VV} {h : VHeap} {r : VV × VHeap} (hE : callW p (fun lo fn args h => bodyVL (callVL p) lo fn args h) lo f args h = some r) : callVL p lo f args h = some r := by
  have : Ev fun K => callW p (fun lo fn args h => bodyV (callV p K) lo (K + 1) fn args h) lo f args h = some r := by
    simp only [callW] at hE ⊢
    cases hp : p f with
    | none => rw [hp] at hE; cases hE
    | some fn =>
      rw [hp] at hE
      simp only at hE ⊢
      split at hE
      · rename_i hpu
        simp only [if_pos hpu]
        cases hs : snapL h args with
        | none => rw [hs] at hE; cases hE
        | some as =>
          rw [hs] at hE
          simp only at hE ⊢
          by_cases hl : lowL 0 as = true
          · simp only [if_pos hl] at hE ⊢
            cases hx : bodyVL (callVL p) 0 fn as [] with
            | none => rw [hx] at hE; cases hE
            | some x => rw [hx] at hE; exact (body_ev hx).imp fun K hK => by rw [hK]; exact hE
          · simp only [if_neg hl] at hE ⊢
            cases hx : bodyVL (callVL p) h.length fn as h with
            | none => rw [hx] at hE; cases hE
            | some x => rw [hx] at hE; exact (body_ev hx).imp fun K hK => by rw [hK]; exact hE
      · rename_i hpu
        simp only [if_neg hpu]
        exact body_ev hE
  obtain ⟨K0,hK⟩ := this
  refine callVL_some.2 ⟨K0 + 1,?_⟩
  rw [callV_W]
  exact hK K0 (Nat.le_refl _)
end
end Vg
