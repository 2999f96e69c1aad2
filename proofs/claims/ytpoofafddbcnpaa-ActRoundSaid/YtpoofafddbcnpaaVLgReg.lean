/- Regions in listed order,loops,code,calls. -/
import Derived.Test.YtpoofafddbcnpaaVLgCode
namespace Lg
open Go Go.RowKit
set_option linter.unusedSimpArgs false
set_option linter.unusedVariables false

/-! ### a loop,once round -/

theorem exitTo_len {id : Nat} : ∀ {k k' : List Item},exitTo id k = some k' → k'.length < k.length
  | [],_,h => by simp [exitTo] at h
  | x :: k,k',h => by
    have rest : exitTo id k = some k' → k'.length < (x :: k).length := fun h => by
      have := exitTo_len h; simp only [List.length_cons]; omega
    cases x <;> simp only [exitTo] at h <;> first | exact rest h | skip
    split at h
    · cases h; simp
    · exact rest h

theorem steps_peel {P : Program} {m m1 m' : Machine} (h1 : step P m = .next m1) (h : Steps P m m') (hne : m ≠ m') : Steps P m1 m' := by
  obtain ⟨n,hn⟩ := h
  cases n with
  | zero => simp [runN] at hn; exact absurd hn hne
  | succ n => simp only [runN,h1] at hn; exact ⟨n,hn⟩

theorem lone_todo {fr fr' : Frame} {cs : List Frame} {w w' : World} (h : lone fr cs w = lone fr' cs w') : fr = fr' := by
  have : (lone fr cs w).gs[0]? = (lone fr' cs w').gs[0]? := by rw [h]
  simp [lone] at this
  exact this

theorem wp_loop_unroll {P : Program} {c : Code} {Q : Exit → Act → World → Prop} {a : Act} {w : World} (hg : ∀ l a w,¬ Q (.goto l) a w) (ho : ∀ a w,¬ Q .outgrown a w)
    (h : c.wp P (Exit.then (fun a' w' => (Code.loop c).wp P Q a' w') Q) a w) : (Code.loop c).wp P Q a w := by
  intro b k cs
  obtain ⟨e,a1,w1,hq,harr⟩ := h b (.inLoop c :: k) cs
  cases e with
  | normal =>
    obtain ⟨e2,a2,w2,hq2,harr2⟩ := hq b k cs
    refine ⟨e2,a2,w2,hq2,.of_steps (.head step_loop (Steps.trans harr (.one step_inLoop))) ?_⟩
    have peel : ∀ m',lone (b.at a1 (.code (.loop c) :: k)) cs w1 ≠ m' → Steps P (lone (b.at a1 (.code (.loop c) :: k)) cs w1) m' → Steps P (lone (b.at a1 (.code c :: .inLoop c :: k)) cs w1) m' :=
      fun m' hne hs => steps_peel step_loop hs hne
    cases e2 with
    | normal =>
      refine peel _ (fun he => ?_) harr2
      have := congrArg Frame.todo (lone_todo he)
      simp [Frame.at] at this
    | exit id =>
      intro k' hk
      refine peel _ (fun he => ?_) (harr2 k' hk)
      have := congrArg Frame.todo (lone_todo he)
      simp only [Frame.at] at this
      have h1 := exitTo_len hk
      rw [← this] at h1
      simp at h1
      omega
    | goto l => exact absurd hq2 (hg l a2 w2)
    | ret =>
      obtain ⟨todo,hs⟩ := harr2
      refine ⟨todo,peel _ (fun he => ?_) hs⟩
      have := congrArg Frame.mode (lone_todo he)
      simp [Frame.at] at this
    | panic chain =>
      obtain ⟨todo,hs⟩ := harr2
      refine ⟨todo,peel _ (fun he => ?_) hs⟩
      have := congrArg Frame.mode (lone_todo he)
      simp [Frame.at] at this
    | outgrown => exact absurd hq2 (ho a2 w2)
  | exit id => exact ⟨_,a1,w1,hq,.of_steps (.one step_loop) (.pass (x := .inLoop c) rfl (fun _ _ => .inl (by simp)) harr)⟩
  | goto l => exact absurd hq (hg l a1 w1)
  | ret => exact ⟨_,a1,w1,hq,.of_steps (.one step_loop) (.pass (x := .inLoop c) rfl (fun _ _ => .inl (by simp)) harr)⟩
  | panic ch => exact ⟨_,a1,w1,hq,.of_steps (.one step_loop) (.pass (x := .inLoop c) rfl (fun _ _ => .inl (by simp)) harr)⟩
  | outgrown => exact absurd hq (ho a1 w1)

/-! ### guards -/

section
variable {H : Hint} {P : Program} {m : Bool} {w0 : Ini m} {ρ : List Place} {h : Heap} {w : World} {a : Act} {env : Env} {cs : CallS}

theorem getD_some {tmps : Array Value} {t : Nat} {v : Value} (h : tmps.getD t undef = v) (hne : v ≠ undef) : tmps[t]? = some v := by
  rw [Array.getD_eq_getD_getElem?] at h
  cases hs : tmps[t]? with
  | none => rw [hs] at h; exact absurd h.symm hne
  | some u => rw [hs] at h; simp at h; rw [h]

theorem oper_wp {ops : Array Oper} {o : Oper} {lo' : LOper} {QQ : Env → Heap → Prop} (hp : preOper P H ops o = some lo') (hcf : CallOK m P cs) (E : ER ρ a env) (R : Rep w0 ρ h w) (hE : operS cs lo' env h QQ)
    {next : Act → World → Prop} {Q : Exit → Act → World → Prop} (hn : ∀ v l h' w' ρ',QQ (putE env o.dst l) h' → Ext ρ ρ' → Rep w0 ρ' h' w' → VR ρ' v l → next (a.put o.dst v) w') :
    if Region.wanted o (yielded ops a.tmps) then o.wp P a w next Q else next (a.put o.dst undef) w := by
  unfold preOper at hp
  simp only at hp
  have main : ∀ (d : Option Nat),lo'.dst = d → lo'.op = ((preOp P o).getD .stuck).note H o.dst → d = o.dst → (opS cs lo'.op env h fun v h' => QQ (putE env lo'.dst v) h') → o.wp P a w next Q := by
    intro d h1 h2 h3 h4
    rw [h2] at h4
    subst h3
    cases hop : preOp P o with
    | none => rw [hop] at h4; obtain ⟨v,h',h5,_⟩ := h4; cases h5
    | some lop =>
    rw [hop] at h4
    exact op_wp hop hcf E R h4 fun u l h' w' ρ' hq he hR hu => hn u l h' w' ρ' (by rw [h1] at hq; exact hq) he hR hu
  split at hp
  · rename_i hg
    cases hp
    have hw : Region.wanted o (yielded ops a.tmps) = true := by simp [Region.wanted,hg]
    rw [if_pos hw]
    exact main _ rfl rfl rfl hE
  · rename_i j want hg
    split at hp
    case h_2 => cases hp
    rename_i t ht
    cases hp
    have hge := E.get t
    simp only [operS] at hE
    split at hE
    · rename_i b hb
      rw [hb] at hge
      have hy : yielded ops a.tmps j = some b := by
        simp only [yielded,ht,Option.bind_some]
        rw [getD_some hge.bool_inv (by simp [undef])]
      split at hE
      · rename_i hbw
        have hw : Region.wanted o (yielded ops a.tmps) = true := by simp [Region.wanted,hg,hy,hbw]
        rw [if_pos hw]
        exact main _ rfl rfl rfl hE
      · rename_i hbw
        have hw : ¬ (Region.wanted o (yielded ops a.tmps) = true) := by simp [Region.wanted,hg,hy,hbw]
        rw [if_neg hw]
        exact hn undef _ h w ρ hE (Ext.refl ρ) R (VRs.tup (VRs.nil ρ))
    · rename_i vs hb
      rw [hb] at hge
      obtain ⟨cs,hc,_⟩ := hge.tup_inv
      have hy : yielded ops a.tmps j = none := by
        simp only [yielded,ht,Option.bind_some]
        rw [Array.getD_eq_getD_getElem?] at hc
        cases hs : a.tmps[t]? with
        | none => rfl
        | some u => rw [hs] at hc; simp at hc; subst hc; rfl
      have hw : ¬ (Region.wanted o (yielded ops a.tmps) = true) := by simp [Region.wanted,hg,hy]
      rw [if_neg hw]
      exact hn undef _ h w ρ hE (Ext.refl ρ) R (VRs.tup (VRs.nil ρ))
    · exact hE.elim

theorem ops_wp {ops : Array Oper} (hcf : CallOK m P cs) {Q : Exit → Act → World → Prop} {QQ : Env → Heap → Prop} : ∀ (is : List Nat) (los : List LOper) (ρ : List Place) (a : Act) (env : Env) (h : Heap) (w : World),
    is.length = los.length → (∀ (k i : Nat) (l : LOper),is[k]? = some i → los[k]? = some l → ∃ o,ops[i]? = some o ∧ preOper P H ops o = some l) →
    ER ρ a env → a.defers = [] → Rep w0 ρ h w → opsS cs los env h QQ →
    (∀ a' w' ρ' env' h',QQ env' h' → Ext ρ ρ' → ER ρ' a' env' → a'.defers = [] → Rep w0 ρ' h' w' → Q .normal a' w') → wpOps P ops Q is a w := by
  intro is
  induction is with
  | nil =>
    intro los ρ a env h w hl _ E hd R hE hQ
    have : los = [] := List.eq_nil_of_length_eq_zero (by simpa using hl.symm)
    subst this
    exact hQ a w ρ env h hE (Ext.refl ρ) E hd R
  | cons i is ih =>
    intro los ρ a env h w hl hpre E hd R hE hQ
    cases los with
    | nil => simp at hl
    | cons l los =>
      obtain ⟨o,ho,hp⟩ := hpre 0 i l rfl rfl
      simp only [opsS] at hE
      simp only [wpOps,ho]
      have step := oper_wp (next := wpOps P ops Q is) (Q := Q) hp hcf E R hE fun v lv h1 w' ρ' hq he hR hv =>
        ih los ρ' (a.put o.dst v) _ h1 w' (by simpa using hl) (fun k i l h1 h2 => hpre (k + 1) i l (by simpa using h1) (by simpa using h2))
          ((E.mono he).put hv o.dst) (by cases hdst : o.dst <;> simp [Act.put,hd]) hR hq fun a' w'' ρ'' env' h' hq' he' => hQ a' w'' ρ'' env' h' hq' (he.trans he')
      by_cases hw : Region.wanted o (yielded ops a.tmps) = true
      · rw [if_pos hw] at step ⊢; exact .inl step
      · rw [if_neg hw] at step ⊢; exact step

theorem mapM_get {α β : Type} (f : α → Option β) : ∀ (xs : List α) (ys : List β),xs.mapM f = some ys → xs.length = ys.length ∧ ∀ (i : Nat) (x : α) (y : β),xs[i]? = some x → ys[i]? = some y → f x = some y
  | [],ys,h => by simp at h; subst h; exact ⟨rfl,fun i x y h => by simp at h⟩
  | x :: xs,ys,h => by
    rw [List.mapM_cons] at h
    simp only [Option.bind_eq_bind,Option.bind_eq_some_iff,Option.pure_def,Option.some.injEq] at h
    obtain ⟨y,hy,ys',hys,rfl⟩ := h
    obtain ⟨h1,h2⟩ := mapM_get f xs ys' hys
    refine ⟨by simp [h1],fun i u v hu hv => ?_⟩
    cases i with
    | zero => simp at hu hv; subst hu; subst hv; exact hy
    | succ i => exact h2 i u v (by simpa using hu) (by simpa using hv)

theorem region_wp {id : Nat} {ops : Array Oper} {los : List LOper} {QQ : Env → Heap → Prop} (hcf : CallOK m P cs) (hp : ops.toList.mapM (preOper P H ops) = some los) (E : ER ρ a env) (hd : a.defers = []) (R : Rep w0 ρ h w) (hE : opsS cs los env h QQ)
    {Q : Exit → Act → World → Prop} (hQ : ∀ a' w' ρ' env' h',QQ env' h' → Ext ρ ρ' → ER ρ' a' env' → a'.defers = [] → Rep w0 ρ' h' w' → Q .normal a' w') : (Code.region id ops false).wp P Q a w := by
  obtain ⟨h1,h2⟩ := mapM_get _ _ _ hp
  refine wp_region (ops_wp (H := H) hcf _ los ρ a env h w (by simpa using h1) (fun k i l hk hl => ?_) E hd R hE hQ)
  have hk' : k < ops.size := by have := lt_of_getElem? hk; simpa using this
  have : i = k := by rw [List.getElem?_range hk'] at hk; cases hk; rfl
  subst this
  exact ⟨ops[i],Array.getElem?_eq_getElem hk',h2 i _ l (by simp) hl⟩
end
end Lg
