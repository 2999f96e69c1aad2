/- Without a bound on rounds and calls. -/
import Derived.Test.YtehpimogdcilaaaLgCall
namespace Lg
open Go
set_option linter.unusedSimpArgs false
set_option linter.unusedVariables false

def Mono {α : Type} (f : Nat → Option α) : Prop := ∀ k r, f k = some r → f (k + 1) = some r
theorem Mono.le {α : Type} {f : Nat → Option α} (hf : Mono f) {k j : Nat} {r : α} (h : f k = some r) (hj : k ≤ j) : f j = some r := by
  induction j with
  | zero => have : k = 0 := by omega
            subst this; exact h
  | succ j ih =>
    by_cases he : k = j + 1
    · subst he; exact h
    · exact hf j r (ih (by omega))

open Classical in
/-- The value from some bound on. -/
noncomputable def limO {α : Type} (f : Nat → Option α) : Option α := if h : ∃ r k, f k = some r then some (Classical.choose h) else none

theorem limO_some {α : Type} {f : Nat → Option α} (hf : Mono f) {r : α} : limO f = some r ↔ ∃ k, f k = some r := by
  unfold limO
  constructor
  · intro h
    split at h
    · rename_i hex
      cases h
      exact Classical.choose_spec hex
    · cases h
  · intro ⟨k, hk⟩
    have hex : ∃ r k, f k = some r := ⟨r, k, hk⟩
    rw [dif_pos hex]
    obtain ⟨j, hj⟩ := Classical.choose_spec hex
    rcases Nat.le_total k j with hle | hle
    · have := hf.le hk hle; rw [hj] at this; exact this
    · have := hf.le hj hle; rw [hk] at this; exact this.symm ▸ rfl

def LeF (cf cf' : CallF) : Prop := ∀ lo f args h r, cf lo f args h = some r → cf' lo f args h = some r

section
variable {cf cf' : CallF} {lo : Nat}

theorem opE_leF (hc : LeF cf cf') {op : LOp} {env : Env} {h : Heap} {r : LV × Heap} (hE : opE cf lo op env h = some r) : opE cf' lo op env h = some r := by
  cases op <;> first
    | exact hE
    | skip
  case call f args => exact hc _ _ _ _ _ hE
  case callv f args =>
    simp only [opE] at hE ⊢
    cases hv : f.ev env <;> rw [hv] at hE <;> simp only at hE ⊢ <;> first | (cases hE; done) | exact hc _ _ _ _ _ hE

theorem operE_leF (hc : LeF cf cf') {o : LOper} {env : Env} {h : Heap} {r : Env × Heap} (hE : operE cf lo o env h = some r) : operE cf' lo o env h = some r := by
  unfold operE at hE ⊢
  have one : ∀ r, (match opE cf lo o.op env h with
      | some (v, h') => some (putE env o.dst v, h')
      | none => none) = some r → (match opE cf' lo o.op env h with
      | some (v, h') => some (putE env o.dst v, h')
      | none => none) = some r := by
    intro r hr
    cases hx : opE cf lo o.op env h with
    | none => rw [hx] at hr; cases hr
    | some x => rw [hx] at hr; rw [opE_leF hc hx]; exact hr
  cases hg : o.guard with
  | none => rw [hg] at hE; exact one r hE
  | some g =>
    obtain ⟨g, want⟩ := g
    rw [hg] at hE
    simp only at hE ⊢
    cases hv : env.getD g .undef <;> rw [hv] at hE <;> simp only at hE ⊢ <;> first | (cases hE; done) | exact hE | skip
    rename_i b
    by_cases hb : b = want
    · rw [if_pos hb] at hE ⊢; exact one r hE
    · rw [if_neg hb] at hE ⊢; exact hE

theorem opsE_leF (hc : LeF cf cf') : ∀ (l : List LOper) (env : Env) (h : Heap) (r : Env × Heap), opsE cf lo l env h = some r → opsE cf' lo l env h = some r
  | [], env, h, r, hE => hE
  | o :: l, env, h, r, hE => by
    simp only [opsE] at hE ⊢
    cases hx : operE cf lo o env h with
    | none => rw [hx] at hE; cases hE
    | some x => rw [hx] at hE; rw [operE_leF hc hx]; exact opsE_leF hc l _ _ r hE

theorem traceE_leF (hc : LeF cf cf') : ∀ (l : List LOper) (env : Env) (h : Heap) (r : List (Option Nat × Heap) × Env × Heap), traceE cf lo l env h = some r → traceE cf' lo l env h = some r
  | [], env, h, r, hE => hE
  | o :: l, env, h, r, hE => by
    simp only [traceE] at hE ⊢
    cases hx : operE cf lo o env h with
    | none => rw [hx] at hE; cases hE
    | some x =>
      rw [hx] at hE; rw [operE_leF hc hx]
      simp only at hE ⊢
      cases hy : traceE cf lo l x.1 x.2 with
      | none => rw [hy] at hE; cases hE
      | some y => rw [hy] at hE; rw [traceE_leF hc l _ _ y hy]; exact hE

theorem dopsE_leF (hc : LeF cf cf') {prs : List (Nat × Nat)} {l : List LOper} {env : Env} {h : Heap} {r : Env × Heap} (hE : dopsE cf lo prs l env h = some r) : dopsE cf' lo prs l env h = some r := by
  unfold dopsE at hE ⊢
  cases prs with
  | nil => exact opsE_leF hc l env h r hE
  | cons p ps =>
    simp only at hE ⊢
    cases hx : traceE cf lo l env h with
    | none => rw [hx] at hE; cases hE
    | some x => rw [hx] at hE; rw [traceE_leF hc l _ _ x hx]; exact hE

def LeB (b b' : Env → Heap → Option (Out × Env × Heap)) : Prop := ∀ env h r, b env h = some r → b' env h = some r

theorem iterE_le {b b' : Env → Heap → Option (Out × Env × Heap)} (hb : LeB b b') : ∀ (k j : Nat) (env : Env) (h : Heap) (r : Out × Env × Heap), k ≤ j → iterE b k env h = some r → iterE b' j env h = some r
  | 0, _, _, _, _, _, hE => by cases hE
  | k + 1, 0, _, _, _, hle, _ => by omega
  | k + 1, j + 1, env, h, r, hle, hE => by
    simp only [iterE] at hE ⊢
    cases hx : b env h with
    | none => rw [hx] at hE; cases hE
    | some x =>
      rw [hx] at hE; rw [hb _ _ _ hx]
      obtain ⟨o, e, h1⟩ := x
      cases o
      · exact iterE_le hb k j e h1 r (by omega) hE
      · exact hE
      · exact hE

theorem codeE_le (hc : LeF cf cf') {K K' : Nat} (hK : K ≤ K') : ∀ (c : LCode), LeB (codeE cf lo K c) (codeE cf' lo K' c) := by
  intro c
  induction c with
  | skip => intro env h r hE; exact hE
  | ops l =>
    intro env h r hE
    simp only [codeE] at hE ⊢
    cases hx : opsE cf lo l env h with
    | none => rw [hx] at hE; cases hE
    | some x => rw [hx] at hE; rw [opsE_leF hc l _ _ x hx]; exact hE
  | dops prs l =>
    intro env h r hE
    simp only [codeE] at hE ⊢
    cases hx : dopsE cf lo prs l env h with
    | none => rw [hx] at hE; cases hE
    | some x => rw [hx] at hE; rw [dopsE_leF hc hx]; exact hE
  | seq a b iha ihb =>
    intro env h r hE
    simp only [codeE] at hE ⊢
    cases hx : codeE cf lo K a env h with
    | none => rw [hx] at hE; cases hE
    | some x =>
      rw [hx] at hE; rw [iha _ _ _ hx]
      obtain ⟨o, e, h1⟩ := x
      cases o
      · exact ihb _ _ _ hE
      · exact hE
      · exact hE
  | cond c a b iha ihb =>
    intro env h r hE
    simp only [codeE] at hE ⊢
    cases hv : c.ev env <;> rw [hv] at hE <;> simp only at hE ⊢ <;> first | (cases hE; done) | skip
    split at hE
    · rw [if_pos ‹_›]; exact iha _ _ _ hE
    · rw [if_neg ‹_›]; exact ihb _ _ _ hE
  | block id c ih =>
    intro env h r hE
    simp only [codeE] at hE ⊢
    cases hx : codeE cf lo K c env h with
    | none => rw [hx] at hE; cases hE
    | some x => rw [hx] at hE; rw [ih _ _ _ hx]; exact hE
  | loop keep c ih =>
    intro env h r hE
    simp only [codeE] at hE ⊢
    exact iterE_le (fun env h r hb => ih _ _ _ hb) K K' env h r hK hE
  | exit id => intro env h r hE; exact hE
  | ret => intro env h r hE; exact hE

theorem bodyE_le (hc : LeF cf cf') {K K' : Nat} (hK : K ≤ K') {f : LFunc} {args : List LV} {h : Heap} {r : LV × Heap} (hE : bodyE cf lo K f args h = some r) : bodyE cf' lo K' f args h = some r := by
  unfold bodyE at hE ⊢
  split at hE
  · rw [if_pos ‹_›]
    cases hx : codeE cf lo K f.body (args ++ List.replicate (f.ntmps - f.nargs) (.tup [])) h with
    | none => rw [hx] at hE; cases hE
    | some x => rw [hx] at hE; rw [codeE_le hc hK _ _ _ _ hx]; exact hE
  · cases hE
end

theorem callE_mono (p : LProg) : ∀ K, LeF (callE p K) (callE p (K + 1))
  | 0 => fun lo f args h r hE => by cases hE
  | K + 1 => fun lo f args h r hE => by
    rw [callE] at hE ⊢
    cases hp : p f with
    | none => rw [hp] at hE; cases hE
    | some fn =>
      rw [hp] at hE
      simp only at hE ⊢
      have sub : ∀ lo h r, bodyE (callE p K) lo (K + 1) fn args h = some r → bodyE (callE p (K + 1)) lo (K + 1 + 1) fn args h = some r := fun lo h r hb => bodyE_le (callE_mono p K) (by omega) hb
      split at hE
      · rw [if_pos ‹_›]
        split at hE
        · rw [if_pos ‹_›]
          cases hx : bodyE (callE p K) 0 (K + 1) fn args [] with
          | none => rw [hx] at hE; cases hE
          | some x => rw [hx] at hE; rw [sub _ _ _ hx]; exact hE
        · rw [if_neg ‹_›]
          cases hx : bodyE (callE p K) h.length (K + 1) fn args h with
          | none => rw [hx] at hE; cases hE
          | some x => rw [hx] at hE; rw [sub _ _ _ hx]; exact hE
      · rw [if_neg ‹_›]; exact sub _ _ _ hE

/-! ### the unbounded machine -/

noncomputable def iterL (b : Env → Heap → Option (Out × Env × Heap)) (env : Env) (h : Heap) : Option (Out × Env × Heap) := limO fun k => iterE b k env h

theorem iter_mono (b : Env → Heap → Option (Out × Env × Heap)) (env : Env) (h : Heap) : Mono fun k => iterE b k env h :=
  fun k r hk => iterE_le (fun _ _ _ h => h) k (k + 1) env h r (by omega) hk

theorem iterL_some {b : Env → Heap → Option (Out × Env × Heap)} {env : Env} {h : Heap} {r : Out × Env × Heap} : iterL b env h = some r ↔ ∃ k, iterE b k env h = some r := limO_some (iter_mono b env h)

noncomputable def codeL (cf : CallF) (lo : Nat) : LCode → Env → Heap → Option (Out × Env × Heap)
  | .skip, env, h => some (.norm, env, h)
  | .ops l, env, h => match opsE cf lo l env h with
    | some (env', h') => some (.norm, env', h')
    | none => none
  | .dops prs l, env, h => match dopsE cf lo prs l env h with
    | some (env', h') => some (.norm, env', h')
    | none => none
  | .seq a b, env, h => match codeL cf lo a env h with
    | some (.norm, env', h') => codeL cf lo b env' h'
    | r => r
  | .cond c a b, env, h => match c.ev env with
    | .bool t => if t then codeL cf lo a env h else codeL cf lo b env h
    | _ => none
  | .block id c, env, h => match codeL cf lo c env h with
    | some (.exit j, env', h') => if j = id then some (.norm, env', h') else some (.exit j, env', h')
    | r => r
  | .loop keep c, env, h => iterL (fun env h => codeL cf lo c (keepE keep env) h) env h
  | .exit id, env, h => some (.exit id, env, h)
  | .ret, env, h => some (.ret, env, h)

noncomputable def bodyL (cf : CallF) (lo : Nat) (f : LFunc) (args : List LV) (h : Heap) : Option (LV × Heap) :=
  if args.length = f.nargs then
    match codeL cf lo f.body (args ++ List.replicate (f.ntmps - f.nargs) (.tup [])) h with
    | some (.norm, env, h') | some (.ret, env, h') => match resultsE env h' f.results with
      | some vs => some (oneOf vs, h')
      | none => none
    | _ => none
  else none

noncomputable def callL (p : LProg) : CallF := fun lo f args h => limO fun K => callE p K lo f args h

theorem call_mono (p : LProg) (lo : Nat) (f : FuncId) (args : List LV) (h : Heap) : Mono fun K => callE p K lo f args h := fun K r hk => callE_mono p K lo f args h r hk

theorem callL_some {p : LProg} {lo : Nat} {f : FuncId} {args : List LV} {h : Heap} {r : LV × Heap} : callL p lo f args h = some r ↔ ∃ K, callE p K lo f args h = some r := limO_some (call_mono p lo f args h)

/-- From some bound on. -/
def Ev (q : Nat → Prop) : Prop := ∃ K0, ∀ K, K0 ≤ K → q K
theorem Ev.and {q r : Nat → Prop} (h : Ev q) (k : Ev r) : Ev fun K => q K ∧ r K := by
  obtain ⟨a, ha⟩ := h
  obtain ⟨b, hb⟩ := k
  exact ⟨max a b, fun K hK => ⟨ha K (by omega), hb K (by omega)⟩⟩
theorem Ev.of {q : Nat → Prop} (h : ∀ K, q K) : Ev q := ⟨0, fun K _ => h K⟩
theorem Ev.imp {q r : Nat → Prop} (h : Ev q) (hi : ∀ K, q K → r K) : Ev r := by
  obtain ⟨a, ha⟩ := h
  exact ⟨a, fun K hK => hi K (ha K hK)⟩

section
variable {p : LProg} {lo : Nat}

theorem call_ev {f : FuncId} {args : List LV} {h : Heap} {r : LV × Heap} (hE : callL p lo f args h = some r) : Ev fun K => callE p K lo f args h = some r := by
  obtain ⟨K0, hk⟩ := callL_some.1 hE
  exact ⟨K0, fun K hK => (call_mono p lo f args h).le hk hK⟩

theorem op_ev {op : LOp} {env : Env} {h : Heap} {r : LV × Heap} (hE : opE (callL p) lo op env h = some r) : Ev fun K => opE (callE p K) lo op env h = some r := by
  cases op <;> first
    | exact Ev.of fun K => hE
    | skip
  case call f args => exact call_ev hE
  case callv f args =>
    simp only [opE] at hE ⊢
    cases hv : f.ev env <;> rw [hv] at hE <;> simp only at hE ⊢ <;> first | (cases hE; done) | exact call_ev hE

theorem oper_ev {o : LOper} {env : Env} {h : Heap} {r : Env × Heap} (hE : operE (callL p) lo o env h = some r) : Ev fun K => operE (callE p K) lo o env h = some r := by
  unfold operE at hE ⊢
  have one : ∀ r, (match opE (callL p) lo o.op env h with
      | some (v, h') => some (putE env o.dst v, h')
      | none => none) = some r → Ev fun K => (match opE (callE p K) lo o.op env h with
      | some (v, h') => some (putE env o.dst v, h')
      | none => none) = some r := by
    intro r hr
    cases hx : opE (callL p) lo o.op env h with
    | none => rw [hx] at hr; cases hr
    | some x => rw [hx] at hr; exact (op_ev hx).imp fun K hK => by rw [hK]; exact hr
  cases hg : o.guard with
  | none => rw [hg] at hE; exact one r hE
  | some g =>
    obtain ⟨g, want⟩ := g
    rw [hg] at hE
    simp only at hE ⊢
    cases hv : env.getD g .undef <;> rw [hv] at hE <;> simp only at hE ⊢ <;> first | (cases hE; done) | exact Ev.of fun _ => hE | skip
    rename_i b
    by_cases hb : b = want
    · simp only [if_pos hb] at hE ⊢; exact one r hE
    · simp only [if_neg hb] at hE ⊢; exact Ev.of fun _ => hE

theorem ops_ev : ∀ (l : List LOper) (env : Env) (h : Heap) (r : Env × Heap), opsE (callL p) lo l env h = some r → Ev fun K => opsE (callE p K) lo l env h = some r
  | [], env, h, r, hE => Ev.of fun _ => hE
  | o :: l, env, h, r, hE => by
    simp only [opsE] at hE ⊢
    cases hx : operE (callL p) lo o env h with
    | none => rw [hx] at hE; cases hE
    | some x => rw [hx] at hE; exact ((oper_ev hx).and (ops_ev l _ _ r hE)).imp fun K hK => by rw [hK.1]; exact hK.2

theorem trace_ev : ∀ (l : List LOper) (env : Env) (h : Heap) (r : List (Option Nat × Heap) × Env × Heap), traceE (callL p) lo l env h = some r → Ev fun K => traceE (callE p K) lo l env h = some r
  | [], env, h, r, hE => Ev.of fun _ => hE
  | o :: l, env, h, r, hE => by
    simp only [traceE] at hE ⊢
    cases hx : operE (callL p) lo o env h with
    | none => rw [hx] at hE; cases hE
    | some x =>
      rw [hx] at hE
      simp only at hE ⊢
      cases hy : traceE (callL p) lo l x.1 x.2 with
      | none => rw [hy] at hE; cases hE
      | some y => rw [hy] at hE; exact ((oper_ev hx).and (trace_ev l _ _ y hy)).imp fun K hK => by rw [hK.1]; simp only; rw [hK.2]; exact hE

theorem dops_ev {prs : List (Nat × Nat)} {l : List LOper} {env : Env} {h : Heap} {r : Env × Heap} (hE : dopsE (callL p) lo prs l env h = some r) : Ev fun K => dopsE (callE p K) lo prs l env h = some r := by
  unfold dopsE at hE ⊢
  cases prs with
  | nil => exact ops_ev l env h r hE
  | cons p' ps =>
    simp only at hE ⊢
    cases hx : traceE (callL p) lo l env h with
    | none => rw [hx] at hE; cases hE
    | some x => rw [hx] at hE; exact (trace_ev l _ _ x hx).imp fun K hK => by rw [hK]; exact hE

theorem code_ev : ∀ (c : LCode) (env : Env) (h : Heap) (r : Out × Env × Heap), codeL (callL p) lo c env h = some r → Ev fun K => codeE (callE p K) lo K c env h = some r := by
  intro c
  induction c with
  | skip => intro env h r hE; exact Ev.of fun _ => hE
  | ops l =>
    intro env h r hE
    simp only [codeL] at hE; simp only [codeE]
    cases hx : opsE (callL p) lo l env h with
    | none => rw [hx] at hE; cases hE
    | some x => rw [hx] at hE; exact (ops_ev l _ _ x hx).imp fun K hK => by rw [hK]; exact hE
  | dops prs l =>
    intro env h r hE
    simp only [codeL] at hE; simp only [codeE]
    cases hx : dopsE (callL p) lo prs l env h with
    | none => rw [hx] at hE; cases hE
    | some x => rw [hx] at hE; exact (dops_ev hx).imp fun K hK => by rw [hK]; exact hE
  | seq a b iha ihb =>
    intro env h r hE
    simp only [codeL] at hE; simp only [codeE]
    cases hx : codeL (callL p) lo a env h with
    | none => rw [hx] at hE; cases hE
    | some x =>
      rw [hx] at hE
      obtain ⟨o, e, h1⟩ := x
      cases o
      · exact ((iha _ _ _ hx).and (ihb _ _ _ hE)).imp fun K hK => by rw [hK.1]; exact hK.2
      · exact (iha _ _ _ hx).imp fun K hK => by rw [hK]; exact hE
      · exact (iha _ _ _ hx).imp fun K hK => by rw [hK]; exact hE
  | cond c a b iha ihb =>
    intro env h r hE
    simp only [codeL] at hE; simp only [codeE]
    cases hv : c.ev env <;> rw [hv] at hE <;> simp only at hE ⊢ <;> first | (cases hE; done) | skip
    split at hE
    · simp only [if_pos ‹_ = true›]; exact iha _ _ _ hE
    · simp only [if_neg ‹¬ _›]; exact ihb _ _ _ hE
  | block id c ih =>
    intro env h r hE
    simp only [codeL] at hE; simp only [codeE]
    cases hx : codeL (callL p) lo c env h with
    | none => rw [hx] at hE; cases hE
    | some x => rw [hx] at hE; exact (ih _ _ _ hx).imp fun K hK => by rw [hK]; exact hE
  | loop keep c ih =>
    intro env h r hE
    simp only [codeL] at hE; simp only [codeE]
    obtain ⟨k, hk⟩ := iterL_some.1 hE
    have key : ∀ (k : Nat) (env : Env) (h : Heap), iterE (fun env h => codeL (callL p) lo c (keepE keep env) h) k env h = some r → Ev fun K => iterE (fun env h => codeE (callE p K) lo K c (keepE keep env) h) k env h = some r := by
      intro k
      induction k with
      | zero => intro env h hk; cases hk
      | succ k ihk =>
        intro env h hk
        simp only [iterE] at hk ⊢
        cases hx : codeL (callL p) lo c (keepE keep env) h with
        | none => rw [hx] at hk; cases hk
        | some x =>
          rw [hx] at hk
          obtain ⟨o, e, h1⟩ := x
          cases o
          · exact ((ih _ _ _ hx).and (ihk _ _ hk)).imp fun K hK => by rw [hK.1]; exact hK.2
          · exact (ih _ _ _ hx).imp fun K hK => by rw [hK]; exact hk
          · exact (ih _ _ _ hx).imp fun K hK => by rw [hK]; exact hk
    obtain ⟨K0, h0⟩ := key k env h hk
    exact ⟨max K0 k, fun K hK => iterE_le (fun _ _ _ h => h) k K env h r (by omega) (h0 K (by omega))⟩
  | exit id => intro env h r hE; exact Ev.of fun _ => hE
  | ret => intro env h r hE; exact Ev.of fun _ => hE

theorem body_ev {f : LFunc} {args : List LV} {h : Heap} {r : LV × Heap} (hE : bodyL (callL p) lo f args h = some r) : Ev fun K => bodyE (callE p K) lo (K + 1) f args h = some r := by
  unfold bodyL at hE
  split at hE
  · rename_i ha
    cases hx : codeL (callL p) lo f.body (args ++ List.replicate (f.ntmps - f.nargs) (.tup [])) h with
    | none => rw [hx] at hE; cases hE
    | some x =>
      rw [hx] at hE
      refine (code_ev _ _ _ x hx).imp fun K hK => ?_
      unfold bodyE
      rw [if_pos ha, codeE_le (fun _ _ _ _ _ h => h) (show K ≤ K + 1 by omega) _ _ _ _ hK]
      exact hE
  · cases hE

/-- A call that changes older blocks, or hands addresses back. -/
theorem callL_body {f : FuncId} {fn : LFunc} {args : List LV} {h : Heap} {r : LV × Heap} (hp : p f = some fn) (hpu : fn.pure = false) (hE : bodyL (callL p) lo fn args h = some r) : callL p lo f args h = some r := by
  obtain ⟨K0, hK⟩ := body_ev hE
  refine callL_some.2 ⟨K0 + 1, ?_⟩
  rw [callE, hp]
  simp only [hpu, Bool.false_eq_true, if_false]
  exact hK K0 (Nat.le_refl _)
/-- A pure call, its arguments without addresses. -/
theorem callL_pure0 {f : FuncId} {fn : LFunc} {args : List LV} {h h1 : Heap} {v : LV} (hp : p f = some fn) (hpu : fn.pure = true) (hg : args.all LV.ground = true) (hE : bodyL (callL p) 0 fn args [] = some (v, h1)) (hv : v.ground = true) : callL p lo f args h = some (v, h) := by
  obtain ⟨K0, hK⟩ := body_ev hE
  refine callL_some.2 ⟨K0 + 1, ?_⟩
  rw [callE, hp]
  simp only [hpu, if_true, hg, hK K0 (Nat.le_refl _), hv]
/-- A pure call. -/
theorem callL_pure {f : FuncId} {fn : LFunc} {args : List LV} {h h1 : Heap} {v : LV} (hp : p f = some fn) (hpu : fn.pure = true) (hg : args.all LV.ground = false) (hE : bodyL (callL p) h.length fn args h = some (v, h1)) (hv : v.ground = true) : callL p lo f args h = some (v, h) := by
  obtain ⟨K0, hK⟩ := body_ev hE
  refine callL_some.2 ⟨K0 + 1, ?_⟩
  rw [callE, hp]
  simp only [hpu, if_true, hg, Bool.false_eq_true, if_false, hK K0 (Nat.le_refl _), hv]
/-- What the kernel has reckoned, on whatever heap. -/
theorem callL_kernel {f : FuncId} {fn : LFunc} {args : List LV} {h : Heap} {v : LV} {K : Nat} (hp : p f = some fn) (hpu : fn.pure = true) (hg : args.all LV.ground = true) (hE : callE p (K + 1) 0 f args [] = some (v, [])) : callL p lo f args h = some (v, h) := by
  refine callL_some.2 ⟨K + 1, ?_⟩
  rw [callE, hp] at hE ⊢
  simp only [hpu, if_true, hg] at hE ⊢
  cases hx : bodyE (callE p K) 0 (K + 1) fn args [] with
  | none => rw [hx] at hE; cases hE
  | some x =>
    rw [hx] at hE
    obtain ⟨u, h1⟩ := x
    simp only at hE ⊢
    split at hE
    · rw [if_pos ‹_›]; cases hE; rfl
    · cases hE
end
end Lg
