/- Regions in listed order, loops, code, calls. -/
import Derived.Test.YtehpimogdcilaaaLgCode
namespace Lg
open Go Go.RowKit
set_option linter.unusedSimpArgs false
set_option linter.unusedVariables false

/-! ### a loop, once round -/

theorem exitTo_len {id : Nat} : ∀ {k k' : List Item}, exitTo id k = some k' → k'.length < k.length
  | [], _, h => by simp [exitTo] at h
  | x :: k, k', h => by
    have rest : exitTo id k = some k' → k'.length < (x :: k).length := fun h => by
      have := exitTo_len h; simp only [List.length_cons]; omega
    cases x <;> simp only [exitTo] at h <;> first | exact rest h | skip
    split at h
    · cases h; simp
    · exact rest h

theorem steps_peel {P : Program} {m m1 m' : Machine} (h1 : step P m = .next m1) (h : Steps P m m') (hne : m ≠ m') : Steps P m1 m' := by
  obtain ⟨n, hn⟩ := h
  cases n with
  | zero => simp [runN] at hn; exact absurd hn hne
  | succ n => simp only [runN, h1] at hn; exact ⟨n, hn⟩

theorem lone_todo {fr fr' : Frame} {cs : List Frame} {w w' : World} (h : lone fr cs w = lone fr' cs w') : fr = fr' := by
  have : (lone fr cs w).gs[0]? = (lone fr' cs w').gs[0]? := by rw [h]
  simp [lone] at this
  exact this

theorem wp_loop_unroll {P : Program} {c : Code} {Q : Exit → Act → World → Prop} {a : Act} {w : World} (hg : ∀ l a w, ¬ Q (.goto l) a w) (ho : ∀ a w, ¬ Q .outgrown a w)
    (h : c.wp P (Exit.then (fun a' w' => (Code.loop c).wp P Q a' w') Q) a w) : (Code.loop c).wp P Q a w := by
  intro b k cs
  obtain ⟨e, a1, w1, hq, harr⟩ := h b (.inLoop c :: k) cs
  cases e with
  | normal =>
    obtain ⟨e2, a2, w2, hq2, harr2⟩ := hq b k cs
    refine ⟨e2, a2, w2, hq2, .of_steps (.head step_loop (Steps.trans harr (.one step_inLoop))) ?_⟩
    have peel : ∀ m', lone (b.at a1 (.code (.loop c) :: k)) cs w1 ≠ m' → Steps P (lone (b.at a1 (.code (.loop c) :: k)) cs w1) m' → Steps P (lone (b.at a1 (.code c :: .inLoop c :: k)) cs w1) m' :=
      fun m' hne hs => steps_peel step_loop hs hne
    cases e2 with
    | normal =>
      refine peel _ (fun he => ?_) harr2
      have := congrArg Frame.todo (lone_todo he)
      simp [Frame.at] at this
    | exit id =>
      intro k' hk
      refine peel _ (fun he => ?_) (harr2 k' hk)
      have := congrArg Frame.todo (lone_todo he)
      simp only [Frame.at] at this
      have h1 := exitTo_len hk
      rw [← this] at h1
      simp at h1
      omega
    | goto l => exact absurd hq2 (hg l a2 w2)
    | ret =>
      obtain ⟨todo, hs⟩ := harr2
      refine ⟨todo, peel _ (fun he => ?_) hs⟩
      have := congrArg Frame.mode (lone_todo he)
      simp [Frame.at] at this
    | panic chain =>
      obtain ⟨todo, hs⟩ := harr2
      refine ⟨todo, peel _ (fun he => ?_) hs⟩
      have := congrArg Frame.mode (lone_todo he)
      simp [Frame.at] at this
    | outgrown => exact absurd hq2 (ho a2 w2)
  | exit id => exact ⟨_, a1, w1, hq, .of_steps (.one step_loop) (.pass (x := .inLoop c) rfl (fun _ _ => .inl (by simp)) harr)⟩
  | goto l => exact absurd hq (hg l a1 w1)
  | ret => exact ⟨_, a1, w1, hq, .of_steps (.one step_loop) (.pass (x := .inLoop c) rfl (fun _ _ => .inl (by simp)) harr)⟩
  | panic ch => exact ⟨_, a1, w1, hq, .of_steps (.one step_loop) (.pass (x := .inLoop c) rfl (fun _ _ => .inl (by simp)) harr)⟩
  | outgrown => exact absurd hq (ho a1 w1)

/-! ### guards -/

section
variable {P : Program} {w0 : World} {ρ : List Place} {h h' : Heap} {w : World} {a : Act} {env env' : Env} {cf : CallF} {lo : Nat}

theorem getD_some {tmps : Array Value} {t : Nat} {v : Value} (h : tmps.getD t undef = v) (hne : v ≠ undef) : tmps[t]? = some v := by
  rw [Array.getD_eq_getD_getElem?] at h
  cases hs : tmps[t]? with
  | none => rw [hs] at h; simp at h; exact absurd h.symm hne
  | some u => rw [hs] at h; simp at h; rw [h]

/-- One operation of a region, its guard first. -/
theorem oper_wp {ops : Array Oper} {o : Oper} {lo' : LOper} (hp : preOper P ops o = some lo') (hcf : CallOK P cf) (E : ER ρ a env) (R : Rep w0 ρ h w) (hE : operE cf lo lo' env h = some (env', h'))
    {next : Act → World → Prop} {Q : Exit → Act → World → Prop} (hn : ∀ v l w' ρ', Ext ρ ρ' → Rep w0 ρ' h' w' → VR ρ' v l → env' = putE env o.dst l → next (a.put o.dst v) w') :
    if Region.wanted o (yielded ops a.tmps) then o.wp P a w next Q else next (a.put o.dst undef) w := by
  unfold preOper at hp
  split at hp
  · cases hp
  rename_i lop hop
  have main : ∀ (d : Option Nat), lo'.dst = d → lo'.op = lop → d = o.dst → (match opE cf lo lo'.op env h with
      | some (v, h') => some (putE env lo'.dst v, h')
      | none => none) = some (env', h') → o.wp P a w next Q := by
    intro d h1 h2 h3 h4
    rw [h2] at h4
    split at h4
    case h_2 => cases h4
    rename_i v hh hv
    cases h4
    subst h3
    exact op_wp hop hcf E R hv fun u w' ρ' he hR hu => hn u v w' ρ' he hR hu (by rw [h1])
  split at hp
  · rename_i hg
    cases hp
    have hw : Region.wanted o (yielded ops a.tmps) = true := by simp [Region.wanted, hg]
    rw [if_pos hw]
    exact main _ rfl rfl rfl hE
  · rename_i j want hg
    split at hp
    case h_2 => cases hp
    rename_i t ht
    cases hp
    have hge := E.get t
    simp only [operE] at hE
    split at hE
    · rename_i b hb
      rw [hb] at hge
      have hy : yielded ops a.tmps j = some b := by
        simp only [yielded, ht, Option.bind_some]
        rw [getD_some hge.bool_inv (by simp [undef])]
      split at hE
      · rename_i hbw
        have hw : Region.wanted o (yielded ops a.tmps) = true := by simp [Region.wanted, hg, hy, hbw]
        rw [if_pos hw]
        exact main _ rfl rfl rfl hE
      · rename_i hbw
        have hw : ¬ (Region.wanted o (yielded ops a.tmps) = true) := by simp [Region.wanted, hg, hy, hbw]
        rw [if_neg hw]
        cases hE
        exact hn undef _ w ρ (Ext.refl ρ) R (VRs.tup (VRs.nil ρ)) rfl
    · rename_i vs hb
      rw [hb] at hge
      obtain ⟨cs, hc, _⟩ := hge.tup_inv
      have hy : yielded ops a.tmps j = none := by
        simp only [yielded, ht, Option.bind_some]
        rw [Array.getD_eq_getD_getElem?] at hc
        cases hs : a.tmps[t]? with
        | none => rfl
        | some u => rw [hs] at hc; simp at hc; subst hc; rfl
      have hw : ¬ (Region.wanted o (yielded ops a.tmps) = true) := by simp [Region.wanted, hg, hy]
      rw [if_neg hw]
      cases hE
      exact hn undef _ w ρ (Ext.refl ρ) R (VRs.tup (VRs.nil ρ)) rfl
    · cases hE

theorem ops_wp {ops : Array Oper} (hcf : CallOK P cf) {Q : Exit → Act → World → Prop} : ∀ (is : List Nat) (los : List LOper) (lo : Nat) (ρ : List Place) (a : Act) (env : Env) (h : Heap) (w : World),
    is.length = los.length → (∀ (k i : Nat) (l : LOper), is[k]? = some i → los[k]? = some l → ∃ o, ops[i]? = some o ∧ preOper P ops o = some l) →
    ER ρ a env → a.defers = [] → Rep w0 ρ h w → opsE cf lo los env h = some (env', h') →
    (∀ a' w' ρ', Ext ρ ρ' → ER ρ' a' env' → a'.defers = [] → Rep w0 ρ' h' w' → Q .normal a' w') → wpOps P ops Q is a w := by
  intro is
  induction is with
  | nil =>
    intro los lo ρ a env h w hl _ E hd R hE hQ
    have : los = [] := List.eq_nil_of_length_eq_zero (by simpa using hl.symm)
    subst this
    simp only [opsE, Option.some.injEq, Prod.mk.injEq] at hE
    obtain ⟨rfl, rfl⟩ := hE
    exact hQ a w ρ (Ext.refl ρ) E hd R
  | cons i is ih =>
    intro los lo ρ a env h w hl hpre E hd R hE hQ
    cases los with
    | nil => simp at hl
    | cons l los =>
      obtain ⟨o, ho, hp⟩ := hpre 0 i l rfl rfl
      simp only [opsE] at hE
      split at hE
      case h_2 => cases hE
      rename_i env1 h1 hE1
      simp only [wpOps, ho]
      have step := oper_wp (next := wpOps P ops Q is) (Q := Q) hp hcf E R hE1 fun v lv w' ρ' he hR hv henv =>
        ih los lo ρ' (a.put o.dst v) env1 h1 w' (by simpa using hl) (fun k i l h1 h2 => hpre (k + 1) i l (by simpa using h1) (by simpa using h2))
          (by rw [henv]; exact (E.mono he).put hv o.dst) (by cases hdst : o.dst <;> simp [Act.put, hd]) hR hE fun a' w'' ρ'' he' => hQ a' w'' ρ'' (he.trans he')
      by_cases hw : Region.wanted o (yielded ops a.tmps) = true
      · rw [if_pos hw] at step ⊢; exact .inl step
      · rw [if_neg hw] at step ⊢; exact step

theorem mapM_get {α β : Type} (f : α → Option β) : ∀ (xs : List α) (ys : List β), xs.mapM f = some ys → xs.length = ys.length ∧ ∀ (i : Nat) (x : α) (y : β), xs[i]? = some x → ys[i]? = some y → f x = some y
  | [], ys, h => by simp at h; subst h; exact ⟨rfl, fun i x y hx => by simp at hx⟩
  | x :: xs, ys, h => by
    rw [List.mapM_cons] at h
    simp only [Option.bind_eq_bind, Option.bind_eq_some_iff, Option.pure_def, Option.some.injEq] at h
    obtain ⟨y, hy, ys', hys, rfl⟩ := h
    obtain ⟨h1, h2⟩ := mapM_get f xs ys' hys
    refine ⟨by simp [h1], fun i u v hu hv => ?_⟩
    cases i with
    | zero => simp at hu hv; subst hu; subst hv; exact hy
    | succ i => exact h2 i u v (by simpa using hu) (by simpa using hv)

theorem region_wp {id : Nat} {ops : Array Oper} {los : List LOper} (hcf : CallOK P cf) (hp : ops.toList.mapM (preOper P ops) = some los) {lo : Nat} (E : ER ρ a env) (hd : a.defers = []) (R : Rep w0 ρ h w) (hE : opsE cf lo los env h = some (env', h'))
    {Q : Exit → Act → World → Prop} (hQ : ∀ a' w' ρ', Ext ρ ρ' → ER ρ' a' env' → a'.defers = [] → Rep w0 ρ' h' w' → Q .normal a' w') : (Code.region id ops false).wp P Q a w := by
  obtain ⟨h1, h2⟩ := mapM_get _ _ _ hp
  refine wp_region (ops_wp hcf _ los lo ρ a env h w (by simpa using h1) (fun k i l hk hl => ?_) E hd R hE hQ)
  have hk' : k < ops.size := by have := lt_of_getElem? hk; simpa using this
  have : i = k := by rw [List.getElem?_range hk'] at hk; cases hk; rfl
  subst this
  exact ⟨ops[i], Array.getElem?_eq_getElem hk', h2 i _ l (by simp) hl⟩
end
end Lg
