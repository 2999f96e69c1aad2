import Derived.Test.YtpoofafddbcnpaaVLgCode
import Derived.Orders
/- Regions in listed order, loops, code, calls. -/
namespace Lg
open Go Go.RowKit
set_option linter.unusedSimpArgs false
set_option linter.unusedVariables false

/-! ### a loop, once round -/

theorem exitTo_len {id : Nat} : ∀ {k k' : List Item}, exitTo id k = some k' → k'.length < k.length
  | [], _, h => by simp [exitTo] at h
  | x :: k, k', h => by
    have rest : exitTo id k = some k' → k'.length < (x :: k).length := fun h => by
      have := exitTo_len h; simp only [List.length_cons]; omega
    cases x <;> simp only [exitTo] at h <;> first | exact rest h | skip
    split at h
    · cases h; simp
    · exact rest h

theorem steps_peel {P : Program} {m m1 m' : Machine} (h1 : step P m = .next m1) (h : Steps P m m') (hne : m ≠ m') : Steps P m1 m' := by
  obtain ⟨n, hn⟩ := h
  cases n with
  | zero => simp [runN] at hn; exact absurd hn hne
  | succ n => simp only [runN, h1] at hn; exact ⟨n, hn⟩

theorem lone_todo {fr fr' : Frame} {cs : List Frame} {w w' : World} (h : lone fr cs w = lone fr' cs w') : fr = fr' := by
  have : (lone fr cs w).gs[0]? = (lone fr' cs w').gs[0]? := by rw [h]
  simp [lone] at this
  exact this

theorem wp_loop_unroll {P : Program} {c : Code} {Q : Exit → Act → World → Prop} {a : Act} {w : World} (hg : ∀ l a w, ¬ Q (.goto l) a w) (ho : ∀ a w, ¬ Q .outgrown a w)
    (h : c.wp P (Exit.then (fun a' w' => (Code.loop c).wp P Q a' w') Q) a w) : (Code.loop c).wp P Q a w := by
  intro b k cs
  obtain ⟨e, a1, w1, hq, harr⟩ := h b (.inLoop c :: k) cs
  cases e with
  | normal =>
    obtain ⟨e2, a2, w2, hq2, harr2⟩ := hq b k cs
    refine ⟨e2, a2, w2, hq2, .of_steps (.head step_loop (Steps.trans harr (.one step_inLoop))) ?_⟩
    have peel : ∀ m', lone (b.at a1 (.code (.loop c) :: k)) cs w1 ≠ m' → Steps P (lone (b.at a1 (.code (.loop c) :: k)) cs w1) m' → Steps P (lone (b.at a1 (.code c :: .inLoop c :: k)) cs w1) m' :=
      fun m' hne hs => steps_peel step_loop hs hne
    cases e2 with
    | normal =>
      refine peel _ (fun he => ?_) harr2
      have := congrArg Frame.todo (lone_todo he)
      simp [Frame.at] at this
    | exit id =>
      intro k' hk
      refine peel _ (fun he => ?_) (harr2 k' hk)
      have := congrArg Frame.todo (lone_todo he)
      simp only [Frame.at] at this
      have h1 := exitTo_len hk
      rw [← this] at h1
      simp at h1
      omega
    | goto l => exact absurd hq2 (hg l a2 w2)
    | ret =>
      obtain ⟨todo, hs⟩ := harr2
      refine ⟨todo, peel _ (fun he => ?_) hs⟩
      have := congrArg Frame.mode (lone_todo he)
      simp [Frame.at] at this
    | panic chain =>
      obtain ⟨todo, hs⟩ := harr2
      refine ⟨todo, peel _ (fun he => ?_) hs⟩
      have := congrArg Frame.mode (lone_todo he)
      simp [Frame.at] at this
    | outgrown => exact absurd hq2 (ho a2 w2)
  | exit id => exact ⟨_, a1, w1, hq, .of_steps (.one step_loop) (.pass (x := .inLoop c) rfl (fun _ _ => .inl (by simp)) harr)⟩
  | goto l => exact absurd hq (hg l a1 w1)
  | ret => exact ⟨_, a1, w1, hq, .of_steps (.one step_loop) (.pass (x := .inLoop c) rfl (fun _ _ => .inl (by simp)) harr)⟩
  | panic ch => exact ⟨_, a1, w1, hq, .of_steps (.one step_loop) (.pass (x := .inLoop c) rfl (fun _ _ => .inl (by simp)) harr)⟩
  | outgrown => exact absurd hq (ho a1 w1)

/-! ### guards -/

section
variable {H : Hint} {P : Program} {m : Bool} {w0 : Ini m} {ρ : List Place} {h : Heap} {w : World} {a : Act} {env : Env} {cs : CallS}

theorem getD_some {tmps : Array Value} {t : Nat} {v : Value} (h : tmps.getD t undef = v) (hne : v ≠ undef) : tmps[t]? = some v := by
  rw [Array.getD_eq_getD_getElem?] at h
  cases hs : tmps[t]? with
  | none => rw [hs] at h; exact absurd h.symm hne
  | some u => rw [hs] at h; simp at h; rw [h]

theorem oper_wp {ops : Array Oper} {o : Oper} {lo' : LOper} {QQ : Env → Heap → Prop} (hp : preOper P H ops o = some lo') (hcf : CallOK m P cs) (E : ER ρ a env) (R : Rep w0 ρ h w) (hE : operS cs lo' env h QQ)
    {next : Act → World → Prop} {Q : Exit → Act → World → Prop} (hn : ∀ v l h' w' ρ', QQ (putE env o.dst l) h' → Ext ρ ρ' → Rep w0 ρ' h' w' → VR ρ' v l → next (a.put o.dst v) w') :
    if Region.wanted o (yielded ops a.tmps) then o.wp P a w next Q else next (a.put o.dst undef) w := by
  unfold preOper at hp
  simp only at hp
  have main : ∀ (d : Option Nat), lo'.dst = d → lo'.op = ((preOp P o).getD .stuck).note H o.dst → d = o.dst → (opS cs lo'.op env h fun v h' => QQ (putE env lo'.dst v) h') → o.wp P a w next Q := by
    intro d h1 h2 h3 h4
    rw [h2] at h4
    subst h3
    cases hop : preOp P o with
    | none => rw [hop] at h4; obtain ⟨v, h', h5, _⟩ := h4; cases h5
    | some lop =>
    rw [hop] at h4
    exact op_wp hop hcf E R h4 fun u l h' w' ρ' hq he hR hu => hn u l h' w' ρ' (by rw [h1] at hq; exact hq) he hR hu
  split at hp
  · rename_i hg
    cases hp
    have hw : Region.wanted o (yielded ops a.tmps) = true := by simp [Region.wanted, hg]
    rw [if_pos hw]
    exact main _ rfl rfl rfl hE
  · rename_i j want hg
    split at hp
    case h_2 => cases hp
    rename_i t ht
    cases hp
    have hge := E.get t
    simp only [operS] at hE
    split at hE
    · rename_i b hb
      rw [hb] at hge
      have hy : yielded ops a.tmps j = some b := by
        simp only [yielded, ht, Option.bind_some]
        rw [getD_some hge.bool_inv (by simp [undef])]
      split at hE
      · rename_i hbw
        have hw : Region.wanted o (yielded ops a.tmps) = true := by simp [Region.wanted, hg, hy, hbw]
        rw [if_pos hw]
        exact main _ rfl rfl rfl hE
      · rename_i hbw
        have hw : ¬ (Region.wanted o (yielded ops a.tmps) = true) := by simp [Region.wanted, hg, hy, hbw]
        rw [if_neg hw]
        exact hn undef _ h w ρ hE (Ext.refl ρ) R (VRs.tup (VRs.nil ρ))
    · rename_i vs hb
      rw [hb] at hge
      obtain ⟨cs, hc, _⟩ := hge.tup_inv
      have hy : yielded ops a.tmps j = none := by
        simp only [yielded, ht, Option.bind_some]
        rw [Array.getD_eq_getD_getElem?] at hc
        cases hs : a.tmps[t]? with
        | none => rfl
        | some u => rw [hs] at hc; simp at hc; subst hc; rfl
      have hw : ¬ (Region.wanted o (yielded ops a.tmps) = true) := by simp [Region.wanted, hg, hy]
      rw [if_neg hw]
      exact hn undef _ h w ρ hE (Ext.refl ρ) R (VRs.tup (VRs.nil ρ))
    · exact hE.elim

theorem ops_wp {ops : Array Oper} (hcf : CallOK m P cs) {Q : Exit → Act → World → Prop} {QQ : Env → Heap → Prop} : ∀ (is : List Nat) (los : List LOper) (ρ : List Place) (a : Act) (env : Env) (h : Heap) (w : World),
    is.length = los.length → (∀ (k i : Nat) (l : LOper), is[k]? = some i → los[k]? = some l → ∃ o, ops[i]? = some o ∧ preOper P H ops o = some l) →
    ER ρ a env → a.defers = [] → Rep w0 ρ h w → opsS cs los env h QQ →
    (∀ a' w' ρ' env' h', QQ env' h' → Ext ρ ρ' → ER ρ' a' env' → a'.defers = [] → Rep w0 ρ' h' w' → Q .normal a' w') → wpOps P ops Q is a w := by
  intro is
  induction is with
  | nil =>
    intro los ρ a env h w hl _ E hd R hE hQ
    have : los = [] := List.eq_nil_of_length_eq_zero (by simpa using hl.symm)
    subst this
    exact hQ a w ρ env h hE (Ext.refl ρ) E hd R
  | cons i is ih =>
    intro los ρ a env h w hl hpre E hd R hE hQ
    cases los with
    | nil => simp at hl
    | cons l los =>
      obtain ⟨o, ho, hp⟩ := hpre 0 i l rfl rfl
      simp only [opsS] at hE
      simp only [wpOps, ho]
      have step := oper_wp (next := wpOps P ops Q is) (Q := Q) hp hcf E R hE fun v lv h1 w' ρ' hq he hR hv =>
        ih los ρ' (a.put o.dst v) _ h1 w' (by simpa using hl) (fun k i l h1 h2 => hpre (k + 1) i l (by simpa using h1) (by simpa using h2))
          ((E.mono he).put hv o.dst) (by cases hdst : o.dst <;> simp [Act.put, hd]) hR hq fun a' w'' ρ'' env' h' hq' he' => hQ a' w'' ρ'' env' h' hq' (he.trans he')
      by_cases hw : Region.wanted o (yielded ops a.tmps) = true
      · rw [if_pos hw] at step ⊢; exact .inl step
      · rw [if_neg hw] at step ⊢; exact step

theorem mapM_get {α β : Type} (f : α → Option β) : ∀ (xs : List α) (ys : List β), xs.mapM f = some ys → xs.length = ys.length ∧ ∀ (i : Nat) (x : α) (y : β), xs[i]? = some x → ys[i]? = some y → f x = some y
  | [], ys, h => by simp at h; subst h; exact ⟨rfl, fun i x y h => by simp at h⟩
  | x :: xs, ys, h => by
    rw [List.mapM_cons] at h
    simp only [Option.bind_eq_bind, Option.bind_eq_some_iff, Option.pure_def, Option.some.injEq] at h
    obtain ⟨y, hy, ys', hys, rfl⟩ := h
    obtain ⟨h1, h2⟩ := mapM_get f xs ys' hys
    refine ⟨by simp [h1], fun i u v hu hv => ?_⟩
    cases i with
    | zero => simp at hu hv; subst hu; subst hv; exact hy
    | succ i => exact h2 i u v (by simpa using hu) (by simpa using hv)

theorem region_wp {id : Nat} {ops : Array Oper} {los : List LOper} {QQ : Env → Heap → Prop} (hcf : CallOK m P cs) (hp : ops.toList.mapM (preOper P H ops) = some los) (E : ER ρ a env) (hd : a.defers = []) (R : Rep w0 ρ h w) (hE : opsS cs los env h QQ)
    {Q : Exit → Act → World → Prop} (hQ : ∀ a' w' ρ' env' h', QQ env' h' → Ext ρ ρ' → ER ρ' a' env' → a'.defers = [] → Rep w0 ρ' h' w' → Q .normal a' w') : (Code.region id ops false).wp P Q a w := by
  obtain ⟨h1, h2⟩ := mapM_get _ _ _ hp
  refine wp_region (ops_wp (H := H) hcf _ los ρ a env h w (by simpa using h1) (fun k i l hk hl => ?_) E hd R hE hQ)
  have hk' : k < ops.size := by have := lt_of_getElem? hk; simpa using this
  have : i = k := by rw [List.getElem?_range hk'] at hk; cases hk; rfl
  subst this
  exact ⟨ops[i], Array.getElem?_eq_getElem hk', h2 i _ l (by simp) hl⟩
end
end Lg
/- Regions whose order Go leaves open. -/
namespace Lg
open Go Go.RowKit
set_option linter.unusedSimpArgs false
set_option linter.unusedVariables false

/-! ### what waits for what -/

theorem foldl_bit (f : Edge → Nat) : ∀ (es : List Edge) (s j : Nat), (es.foldl (fun s e => if Region.binds .any e then s ||| f e else s) s).testBit j = true → s.testBit j = true ∨ ∃ e ∈ es, Region.binds .any e = true ∧ (f e).testBit j = true
  | [], s, j, h => .inl h
  | e :: es, s, j, h => by
    simp only [List.foldl_cons] at h
    rcases foldl_bit f es _ j h with h1 | ⟨e', h1, h2, h3⟩
    · split at h1
      · rename_i hb
        rw [Nat.testBit_or, Bool.or_eq_true] at h1
        rcases h1 with h1 | h1
        · exact .inl h1
        · exact .inr ⟨e, by simp, hb, h1⟩
      · exact .inl h1
    · exact .inr ⟨e', by simp [h1], h2, h3⟩

theorem mask_bit {o : Oper} {acc : List Nat} {j : Nat} (h : (mask o acc).testBit j = true) : ∃ e ∈ o.after.toList, Region.binds .any e = true ∧ (e.on = j ∨ (acc.getD e.on 0).testBit j = true) := by
  rcases foldl_bit (fun e => 2 ^ e.on ||| acc.getD e.on 0) _ _ j h with h1 | ⟨e, h1, h2, h3⟩
  · simp at h1
  · refine ⟨e, h1, h2, ?_⟩
    rw [Nat.testBit_or, Bool.or_eq_true] at h3
    rcases h3 with h3 | h3
    · rw [Nat.testBit_two_pow] at h3
      exact .inl (by simpa using h3)
    · exact .inr h3

theorem befs_pre : ∀ (ops : List Oper) (acc : List Nat) (i : Nat), i < acc.length → (befs ops acc).getD i 0 = acc.getD i 0
  | [], acc, i, h => rfl
  | o :: r, acc, i, h => by
    rw [befs, befs_pre r _ i (by simp; omega)]
    simp [List.getD_eq_getElem?_getD, List.getElem?_append_left h]

theorem befs_get : ∀ (ops : List Oper) (acc : List Nat) (k : Nat) (o : Oper), ops[k]? = some o → ∃ acc' : List Nat, (befs ops acc).getD (acc.length + k) 0 = mask o acc' ∧ acc'.length = acc.length + k ∧ ∀ i, i < acc'.length → acc'.getD i 0 = (befs ops acc).getD i 0
  | [], acc, k, o, h => by simp at h
  | x :: r, acc, k, o, h => by
    cases k with
    | zero =>
      simp at h; subst h
      refine ⟨acc, ?_, rfl, fun i hi => ?_⟩
      · rw [befs, befs_pre r _ _ (by simp)]
        simp
      · rw [befs, befs_pre r _ _ (by simp; omega)]
        simp [List.getD_eq_getElem?_getD, List.getElem?_append_left hi]
    | succ k =>
      obtain ⟨acc', h1, h2, h3⟩ := befs_get r (acc ++ [mask x acc]) k o (by simpa using h)
      refine ⟨acc', ?_, by simpa [Nat.add_assoc, Nat.add_comm 1 k] using h2, fun i hi => by rw [befs]; exact h3 i hi⟩
      rw [befs]
      rw [← h1]
      congr 1
      simp; omega

/-- A bit: an edge, or an edge and a bit there. -/
theorem befs_bit {ops : List Oper} {i j : Nat} (hb : backB ops = true) (h : ((befs ops []).getD i 0).testBit j = true) :
    ∃ o e, ops[i]? = some o ∧ e ∈ o.after.toList ∧ Region.binds .any e = true ∧ e.on < i ∧ (e.on = j ∨ ((befs ops []).getD e.on 0).testBit j = true) := by
  have hlen : ∀ (ops : List Oper) (acc : List Nat), (befs ops acc).length = acc.length + ops.length := by
    intro ops
    induction ops with
    | nil => intro acc; simp [befs]
    | cons o r ih => intro acc; rw [befs, ih]; simp; omega
  have hi : i < ops.length := by
    rcases Nat.lt_or_ge i ops.length with h' | h'
    · exact h'
    · rw [List.getD_eq_getElem?_getD, List.getElem?_eq_none (by rw [hlen]; simpa using h')] at h; simp at h
  obtain ⟨acc', h1, h2, h3⟩ := befs_get ops [] i ops[i] (List.getElem?_eq_getElem hi)
  simp only [List.length_nil, Nat.zero_add] at h1 h2
  rw [h1] at h
  obtain ⟨e, he, hbe, h4⟩ := mask_bit h
  have hlt : e.on < i := by
    have := List.all_eq_true.1 hb (ops[i], i) (by rw [List.mem_zipIdx_iff_getElem?]; exact List.getElem?_eq_getElem hi)
    have := List.all_eq_true.1 this e he
    simpa [hbe] using this
  refine ⟨ops[i], e, List.getElem?_eq_getElem hi, he, hbe, hlt, ?_⟩
  rcases h4 with h4 | h4
  · exact .inl h4
  · exact .inr (by rw [← h3 e.on (by omega)]; exact h4)

theorem befs_lt {ops : List Oper} (hb : backB ops = true) : ∀ (i j : Nat), ((befs ops []).getD i 0).testBit j = true → j < i := by
  intro i
  induction i using Nat.strongRecOn with
  | _ i ih =>
    intro j h
    obtain ⟨o, e, _, _, _, hlt, h1⟩ := befs_bit hb h
    rcases h1 with rfl | h1
    · exact hlt
    · have := ih e.on hlt j h1; omega

/-- What has been carried out: with each all that it waits for. -/
def Closed (ops : Array Oper) (listed : Array Bool) : Prop :=
  ∀ i o, ops[i]? = some o → listed.getD i false = true → ∀ e ∈ o.after.toList, Region.binds .any e = true → listed.getD e.on false = true

theorem closed_bef {ops : Array Oper} {listed : Array Bool} (hb : backB ops.toList = true) (hc : Closed ops listed) : ∀ (i j : Nat), listed.getD i false = true → ((befs ops.toList []).getD i 0).testBit j = true → listed.getD j false = true := by
  intro i
  induction i using Nat.strongRecOn with
  | _ i ih =>
    intro j hi h
    obtain ⟨o, e, ho, he, hbe, hlt, h1⟩ := befs_bit hb h
    have hon := hc i o (by simpa using ho) hi e he hbe
    rcases h1 with rfl | h1
    · exact hon
    · exact ih e.on hlt j hon h1

theorem mem_ready {ops : Array Oper} {listed : Array Bool} {i : Nat} (h : i ∈ Region.ready .any ops listed) : i < ops.size ∧ listed.getD i true = false ∧ ∃ o, ops[i]? = some o ∧ ∀ e ∈ o.after.toList, Region.binds .any e = true → listed.getD e.on false = true := by
  unfold Region.ready at h
  rw [List.mem_filter, List.mem_range] at h
  obtain ⟨h1, h2⟩ := h
  rw [Bool.and_eq_true] at h2
  refine ⟨h1, by simpa using h2.1, ops[i], Array.getElem?_eq_getElem h1, fun e he hbe => ?_⟩
  have h3 := h2.2
  rw [Array.getElem?_eq_getElem h1] at h3
  simp only [Option.map_some, Option.getD_some] at h3
  rw [← Array.all_toList] at h3
  have := List.all_eq_true.1 h3 e he
  simpa [hbe] using this

/-- Where something is left, something is ready. -/
theorem ready_left {ops : Array Oper} {listed : Array Bool} (hb : backB ops.toList = true) (hs : listed.size = ops.size) (h : Region.ready .any ops listed = []) : ∀ i, i < ops.size → listed.getD i true = true := by
  intro i
  induction i using Nat.strongRecOn with
  | _ i ih =>
    intro hi
    cases hl : listed.getD i true with
    | true => rfl
    | false =>
      exfalso
      have : i ∈ Region.ready .any ops listed := by
        unfold Region.ready
        rw [List.mem_filter, List.mem_range]
        refine ⟨hi, ?_⟩
        rw [hl, Array.getElem?_eq_getElem hi]
        simp only [Bool.not_false, Bool.true_and, Option.map_some, Option.getD_some]
        rw [← Array.all_toList, List.all_eq_true]
        intro e he
        cases hbe : Region.binds .any e with
        | false => rfl
        | true =>
          have hlt : e.on < i := by
            have := List.all_eq_true.1 hb (ops[i], i) (by rw [List.mem_zipIdx_iff_getElem?]; simp)
            have := List.all_eq_true.1 this e he
            simpa [hbe] using this
          have := ih e.on hlt (by omega)
          rw [Array.getD_eq_getD_getElem?, Array.getElem?_eq_getElem (by omega)] at this ⊢
          simpa using this
      rw [h] at this
      cases this

end Lg
/- Regions of open order: in whatever order the model takes them. -/
namespace Lg
open Go Go.RowKit
set_option linter.unusedSimpArgs false
set_option linter.unusedVariables false

theorem filter_less {p q : Nat → Bool} : ∀ (l : List Nat), (∀ i ∈ l, p i = true → q i = true) → (∃ i ∈ l, q i = true ∧ p i = false) → (l.filter p).length < (l.filter q).length
  | [], _, h => by obtain ⟨i, hi, _⟩ := h; cases hi
  | x :: l, h1, h2 => by
    have le : ∀ (l : List Nat), (∀ i ∈ l, p i = true → q i = true) → (l.filter p).length ≤ (l.filter q).length := by
      intro l
      induction l with
      | nil => intro _; simp
      | cons y l ih =>
        intro h
        have := ih fun i hi => h i (by simp [hi])
        have hy := h y (by simp)
        simp only [List.filter_cons]
        cases hp : p y <;> cases hq : q y <;> simp_all <;> omega
    have h1' : ∀ i ∈ l, p i = true → q i = true := fun i hi => h1 i (by simp [hi])
    simp only [List.filter_cons]
    by_cases hx : q x = true ∧ p x = false
    · have := le l h1'
      simp [hx.1, hx.2]; omega
    · have : ∃ i ∈ l, q i = true ∧ p i = false := by
        obtain ⟨i, hi, hqp⟩ := h2
        rcases List.mem_cons.1 hi with rfl | hi
        · exact absurd hqp hx
        · exact ⟨i, hi, hqp⟩
      have ih := filter_less l h1' this
      have hy := h1 x (by simp)
      cases hp : p x <;> cases hq : q x <;> simp_all <;> omega

/-- How many are left. -/
def left (n : Nat) (listed : Array Bool) : Nat := ((List.range n).filter fun i => !listed.getD i true).length

theorem getD_set {listed : Array Bool} {i j : Nat} {d : Bool} (hi : i < listed.size) : (listed.setIfInBounds i true).getD j d = if j = i then true else listed.getD j d := by
  rw [Array.getD_eq_getD_getElem?, Array.getD_eq_getD_getElem?, Array.getElem?_setIfInBounds]
  by_cases h : i = j
  · subst h; simp [hi]
  · simp [h, Ne.symm h]

theorem left_set {n i : Nat} {listed : Array Bool} (hs : listed.size = n) (hi : i < n) (hl : listed.getD i true = false) : left n (listed.setIfInBounds i true) < left n listed := by
  unfold left
  refine filter_less _ (fun j _ hj => ?_) ⟨i, List.mem_range.2 hi, by simp [hl], by rw [getD_set (by omega)]; simp⟩
  rw [getD_set (by omega)] at hj
  split at hj
  · simp at hj
  · exact hj


section
variable {H : Hint} {P : Program} {m : Bool} {w0 : Ini m} {ρ : List Place} {h : Heap} {w : World} {a : Act} {env : Env} {cs : CallS}

theorem closed_set {ops : Array Oper} {listed : Array Bool} {i : Nat} (hs : listed.size = ops.size) (hc : Closed ops listed) (hi : i ∈ Region.ready .any ops listed) : Closed ops (listed.setIfInBounds i true) := by
  obtain ⟨hlt, _, o, ho, he⟩ := mem_ready hi
  intro k q hq hl e heq hb
  rw [getD_set (by omega)] at hl ⊢
  split at hl
  · rename_i hk
    subst hk
    rw [ho] at hq; cases hq
    split
    · rfl
    · exact he e heq hb
  · split
    · rfl
    · exact hc k q hq hl e heq hb

theorem any_wp {ops : Array Oper} {los : List LOper} {QQ : Env → Heap → Prop} (hcf : CallOK m P cs) (hp : ops.toList.mapM (preOper P H ops) = some los) (hb : backB ops.toList = true)
    {Q : Exit → Act → World → Prop} (hQ : ∀ a' w' ρ' env' h', QQ env' h' → Ext ρ ρ' → ER ρ' a' env' → a'.defers = [] → Rep w0 ρ' h' w' → Q .normal a' w') :
    ∀ (n fuel : Nat) (listed : Array Bool) (a : Act) (w : World) (ρ1 : List Place) (env : Env) (h : Heap) (done : Nat → Bool), n ≤ fuel → left ops.size listed ≤ n → (∀ i, i < ops.size → done i = listed.getD i false) → listed.size = ops.size → Closed ops listed → Ext ρ ρ1 → ER ρ1 a env → a.defers = [] → Rep w0 ρ1 h w →
      dopsS cs (befs ops.toList []) los QQ n done env h → wpAny P .any ops Q fuel listed a w := by
  obtain ⟨hlen, hget⟩ := mapM_get _ _ _ hp
  have hlen' : ops.size = los.length := by simpa using hlen
  have fin : ∀ (listed : Array Bool) (a : Act) (w : World) (ρ1 : List Place) (env : Env) (h : Heap) (done : Nat → Bool), (∀ i, i < ops.size → done i = listed.getD i false) → listed.size = ops.size → Ext ρ ρ1 → ER ρ1 a env → a.defers = [] → Rep w0 ρ1 h w → ((∀ i, i < los.length → done i = true) → QQ env h) → (∀ i, i < ops.size → listed.getD i true = true) → Q .normal a w := by
    intro listed a w ρ1 env h done hd hs he E hdd R hq hall
    refine hQ a w ρ1 env h (hq fun i hi => ?_) he E hdd R
    rw [hd i (by omega)]
    have := hall i (by omega)
    rw [Array.getD_eq_getD_getElem?, Array.getElem?_eq_getElem (by omega)] at this ⊢
    simpa using this
  intro n
  induction n with
  | zero =>
    intro fuel listed a w ρ1 env h done hf hl hd hs hc he E hdd R hS
    have hall : ∀ i, i < ops.size → listed.getD i true = true := by
      intro i hi
      have h0 : left ops.size listed = 0 := by omega
      unfold left at h0
      rw [List.length_eq_zero_iff, List.filter_eq_nil_iff] at h0
      have := h0 i (List.mem_range.2 hi)
      simpa using this
    have hr : Region.ready .any ops listed = [] := by
      cases hx : Region.ready .any ops listed with
      | nil => rfl
      | cons i r =>
        have hm : i ∈ Region.ready .any ops listed := by rw [hx]; simp
        obtain ⟨h1, h2, _⟩ := mem_ready hm
        rw [hall i h1] at h2; cases h2
    have hq := fin listed a w ρ1 env h done hd hs he E hdd R hS hall
    cases fuel with
    | zero => exact ⟨hr, hq⟩
    | succ fuel => exact ⟨fun _ => hq, fun i hi => by rw [hr] at hi; cases hi⟩
  | succ n ih =>
    intro fuel listed a w ρ1 env h done hf hl hd hs hc he E hdd R hS
    obtain ⟨hS0, hS1⟩ := hS
    cases fuel with
    | zero => omega
    | succ fuel =>
      refine ⟨fun hr => fin listed a w ρ1 env h done hd hs he E hdd R hS0 (ready_left hb hs hr), fun i hi => ?_⟩
      obtain ⟨hlt, hli, o, ho, hed⟩ := mem_ready hi
      have hli' : listed.getD i false = false := by
        rw [Array.getD_eq_getD_getElem?, Array.getElem?_eq_getElem (by omega)] at hli ⊢
        simpa using hli
      obtain ⟨l, hl'⟩ : ∃ l, los[i]? = some l := ⟨_, List.getElem?_eq_getElem (by omega)⟩
      have hc' := closed_set hs hc hi
      have hbef : ∀ j, ((befs ops.toList []).getD i 0).testBit j = true → done j = true := by
        intro j hj
        have hlt2 := befs_lt hb i j hj
        have h1 := closed_bef hb hc' i j (by rw [getD_set (by omega)]; simp) hj
        rw [getD_set (by omega)] at h1
        rw [hd j (by omega)]
        rw [if_neg (by omega)] at h1
        exact h1
      have hop := hS1 i l hl' (by rw [hd i hlt]; exact hli') hbef
      have hpo := hget i o l (by simpa using ho) hl'
      have step := oper_wp (next := wpAny P .any ops Q fuel (listed.setIfInBounds i true)) (Q := Q) hpo hcf E R hop fun v lv h1 w' ρ' hq he' hR hv =>
        ih fuel (listed.setIfInBounds i true) (a.put o.dst v) w' ρ' _ h1 _ (by omega) (by have := left_set hs hlt hli; omega) (fun j hj => by
          rw [getD_set (by omega), hd j hj]
          by_cases hji : j = i
          · subst hji; simp
          · simp [hji]) (by simp [hs]) hc' (he.trans he') ((E.mono he').put hv o.dst) (by cases hdst : o.dst <;> simp [Act.put, hdd]) hR hq
      simp only [wpOp, ho]
      by_cases hw : Region.wanted o (yielded ops a.tmps) = true
      · rw [if_pos hw] at step ⊢; exact .inl step
      · rw [if_neg hw] at step ⊢; exact step

theorem dregion_wp {id : Nat} {ops : Array Oper} {los : List LOper} {QQ : Env → Heap → Prop} (hcf : CallOK m P cs) (hp : ops.toList.mapM (preOper P H ops) = some los) (hb : backB ops.toList = true) (hm : P.follows .mixedOrders = true)
    (E : ER ρ a env) (hd : a.defers = []) (R : Rep w0 ρ h w) (hE : dopsS cs (befs ops.toList []) los QQ los.length (fun _ => false) env h)
    {Q : Exit → Act → World → Prop} (hQ : ∀ a' w' ρ' env' h', QQ env' h' → Ext ρ ρ' → ER ρ' a' env' → a'.defers = [] → Rep w0 ρ' h' w' → Q .normal a' w') : (Code.region id ops true).wp P Q a w := by
  refine wp_region_any hm ?_
  obtain ⟨hlen, _⟩ := mapM_get _ _ _ hp
  have hlen' : ops.size = los.length := by simpa using hlen
  have hnone : ∀ i, (Array.replicate ops.size false).getD i false = false := by
    intro i
    rw [Array.getD_eq_getD_getElem?]
    cases hx : (Array.replicate ops.size false)[i]? with
    | none => rfl
    | some b => have := Array.getElem?_eq_some_iff.1 hx; obtain ⟨_, hb⟩ := this; simp at hb; subst hb; rfl
  refine any_wp hcf hp hb hQ los.length ops.size _ a _ ρ env h _ (by omega) ?_ (fun i hi => by rw [hnone]) (by simp) (fun i o ho hl => by rw [hnone] at hl; cases hl) (Ext.refl ρ) E hd R.drew hE
  exact Nat.le_trans (List.length_filter_le _ _) (by simp [hlen'])
end
end Lg
