/- Regions whose order Go leaves open: the listed order serves for all. -/
import Derived.Test.YtehpimogdcilaaaLgDraw2
namespace Lg
open Go Go.RowKit
set_option linter.unusedSimpArgs false
set_option linter.unusedVariables false

theorem filter_less {p q : Nat → Bool} : ∀ (l : List Nat), (∀ i ∈ l, p i = true → q i = true) → (∃ i ∈ l, q i = true ∧ p i = false) → (l.filter p).length < (l.filter q).length
  | [], _, h => by obtain ⟨i, hi, _⟩ := h; cases hi
  | x :: l, h1, h2 => by
    have le : ∀ (l : List Nat), (∀ i ∈ l, p i = true → q i = true) → (l.filter p).length ≤ (l.filter q).length := by
      intro l
      induction l with
      | nil => intro _; simp
      | cons y l ih =>
        intro h
        have := ih fun i hi => h i (by simp [hi])
        have hy := h y (by simp)
        simp only [List.filter_cons]
        cases hp : p y <;> cases hq : q y <;> simp_all <;> omega
    have h1' : ∀ i ∈ l, p i = true → q i = true := fun i hi => h1 i (by simp [hi])
    simp only [List.filter_cons]
    by_cases hx : q x = true ∧ p x = false
    · have := le l h1'
      simp [hx.1, hx.2]; omega
    · have : ∃ i ∈ l, q i = true ∧ p i = false := by
        obtain ⟨i, hi, hqp⟩ := h2
        rcases List.mem_cons.1 hi with rfl | hi
        · exact absurd hqp hx
        · exact ⟨i, hi, hqp⟩
      have ih := filter_less l h1' this
      have hy := h1 x (by simp)
      cases hp : p x <;> cases hq : q x <;> simp_all <;> omega

/-- How many are left. -/
def left (n : Nat) (listed : Array Bool) : Nat := ((List.range n).filter fun i => !listed.getD i true).length

theorem getD_set {listed : Array Bool} {i j : Nat} {d : Bool} (hi : i < listed.size) : (listed.setIfInBounds i true).getD j d = if j = i then true else listed.getD j d := by
  rw [Array.getD_eq_getD_getElem?, Array.getD_eq_getD_getElem?, Array.getElem?_setIfInBounds]
  by_cases h : i = j
  · subst h; simp [hi]
  · simp [h, Ne.symm h]

theorem left_set {n i : Nat} {listed : Array Bool} (hs : listed.size = n) (hi : i < n) (hl : listed.getD i true = false) : left n (listed.setIfInBounds i true) < left n listed := by
  unfold left
  refine filter_less _ (fun j _ hj => ?_) ⟨i, List.mem_range.2 hi, by simp [hl], by rw [getD_set (by omega)]; simp⟩
  rw [getD_set (by omega)] at hj
  split at hj
  · simp at hj
  · exact hj

theorem trace_inv {cf : CallF} {lo : Nat} : ∀ (los : List LOper) (env : Env) (h : Heap) (tr : List (Option Nat × Heap)) (env' : Env) (h' : Heap), traceE cf lo los env h = some (tr, env', h') →
    ∃ (es : Nat → Env) (hs : Nat → Heap), es 0 = env ∧ hs 0 = h ∧ es los.length = env' ∧ hs los.length = h' ∧ tr.length = los.length ∧
      ∀ (i : Nat) (l : LOper), los[i]? = some l → operE cf lo l (es i) (hs i) = some (es (i + 1), hs (i + 1)) ∧ tr[i]? = some (readsE l.op (es i), hs i)
  | [], env, h, tr, env', h', hE => by
    simp only [traceE, Option.some.injEq, Prod.mk.injEq] at hE
    obtain ⟨rfl, rfl, rfl⟩ := hE
    exact ⟨fun _ => env, fun _ => h, rfl, rfl, rfl, rfl, rfl, fun i l hl => by simp at hl⟩
  | o :: los, env, h, tr, env', h', hE => by
    simp only [traceE] at hE
    split at hE
    case h_2 => cases hE
    rename_i env1 h1 hE1
    split at hE
    case h_2 => cases hE
    rename_i tr1 e1 hE2
    cases hE
    obtain ⟨es, hs, h2, h3, h4, h5, h6, h7⟩ := trace_inv los env1 h1 tr1 env' h' hE2
    refine ⟨fun i => match i with | 0 => env | i + 1 => es i, fun i => match i with | 0 => h | i + 1 => hs i, rfl, rfl, h4, h5, by simp [h6], fun i l hl => ?_⟩
    cases i with
    | zero =>
      simp at hl; subst hl
      refine ⟨?_, rfl⟩
      show operE cf lo o env h = some (es 0, hs 0)
      rw [h2, h3]; exact hE1
    | succ i => exact ⟨(h7 i l (by simpa using hl)).1, by simpa using (h7 i l (by simpa using hl)).2⟩

theorem trace_of_ops {cf : CallF} {lo : Nat} : ∀ (los : List LOper) (env : Env) (h : Heap) (env' : Env) (h' : Heap), opsE cf lo los env h = some (env', h') → ∃ tr, traceE cf lo los env h = some (tr, env', h')
  | [], env, h, env', h', hE => by simp only [opsE, Option.some.injEq, Prod.mk.injEq] at hE; obtain ⟨rfl, rfl⟩ := hE; exact ⟨[], rfl⟩
  | o :: los, env, h, env', h', hE => by
    simp only [opsE] at hE
    split at hE
    case h_2 => cases hE
    rename_i env1 h1 hE1
    obtain ⟨tr, htr⟩ := trace_of_ops los env1 h1 env' h' hE
    exact ⟨(readsE o.op env, h) :: tr, by simp only [traceE, hE1, htr]⟩

theorem getD_putE {env : Env} {d : Option Nat} {v : LV} {t : Nat} : (putE env d v).getD t .undef = if d = some t ∧ t < env.length then v else env.getD t .undef := by
  cases d with
  | none => simp [putE]
  | some d =>
    simp only [putE, List.getD_eq_getElem?_getD, List.getElem?_set]
    by_cases h : d = t
    · subst h
      by_cases h2 : d < env.length
      · simp [h2]
      · simp [h2]
    · simp [h]

theorem length_putE {env : Env} {d : Option Nat} {v : LV} : (putE env d v).length = env.length := by cases d <;> simp [putE]

section
variable {P : Program} {cf : CallF} {lo : Nat} {ops : Array Oper} {los : List LOper} {prs : List (Nat × Nat)} {w0 : World} {ρ : List Place} {env : Env} {es : Nat → Env} {hs : Nat → Heap} {lv : Nat → LV} {hend : Heap} {tr : List (Option Nat × Heap)}

/-- What holds when some operations have been carried out. -/
structure DI (ops : Array Oper) (los : List LOper) (w0 : World) (ρ : List Place) (env : Env) (hs : Nat → Heap) (lv : Nat → LV) (listed : Array Bool) (a : Act) (w : World) : Prop where
  closed : Closed ops listed
  size : listed.size = ops.size
  tsz : a.tmps.size = env.length
  defers : a.defers = []
  main : ∃ ρ' c, Ext ρ ρ' ∧ c ≤ los.length ∧ (∀ (i : Nat) (l : LOper), los[i]? = some l → l.op.changes = true → (listed.getD i false = true ↔ i < c)) ∧ Rep w0 ρ' (hs c) w ∧
    (∀ t, t < env.length → (∀ (i : Nat) (l : LOper), los[i]? = some l → listed.getD i false = true → l.dst ≠ some t) → VR ρ' (a.tmps.getD t undef) (env.getD t .undef)) ∧
    (∀ (i : Nat) (l : LOper) (t : Nat), t < env.length → los[i]? = some l → listed.getD i false = true → l.dst = some t → VR ρ' (a.tmps.getD t undef) (lv i))

theorem getD_put {a : Act} {d : Option Nat} {v : Value} {t : Nat} : (a.put d v).tmps.getD t undef = if d = some t ∧ t < a.tmps.size then v else a.tmps.getD t undef := by
  cases d with
  | none => simp [Act.put]
  | some d =>
    simp only [Act.put, Array.getD_eq_getD_getElem?, Array.getElem?_setIfInBounds]
    by_cases h : d = t
    · subst h
      by_cases h2 : d < a.tmps.size
      · simp [h2]
      · simp [h2]
    · simp [h]

theorem draw_any (hcf : CallOK P cf) (hpre : ops.toList.mapM (preOper P ops) = some los) (hd : drawB (befs ops.toList []) los prs = true) (hb : backB ops.toList = true)
    (he0 : es 0 = env) (hlast : hs los.length = hend) (htl : tr.length = los.length)
    (hst : ∀ (i : Nat) (l : LOper), los[i]? = some l → operE cf lo l (es i) (hs i) = some (es (i + 1), hs (i + 1)) ∧ tr[i]? = some (readsE l.op (es i), hs i))
    (hlv : ∀ (i : Nat) (l : LOper), los[i]? = some l → es (i + 1) = putE (es i) l.dst (lv i) ∧
      (∀ env2 : Env, (∀ t ∈ l.looksAt, env2.getD t .undef = (es i).getD t .undef) → operE cf lo l env2 (hs i) = some (putE env2 l.dst (lv i), hs (i + 1))) ∧
      (l.op.changes = false → hs (i + 1) = hs i ∧ ∀ (env2 : Env) (h2 : Heap), (∀ t ∈ l.looksAt, env2.getD t .undef = (es i).getD t .undef) → (∀ n, readsE l.op (es i) = some n → h2[n]? = (hs i)[n]?) → operE cf lo l env2 h2 = some (putE env2 l.dst (lv i), h2)))
    (hlooks : ∀ (op : LOp) (env : Env), op.looks = false → op.changes = false → readsE op env = none)
    (hok : DrawOk prs tr hend) {Q : Exit → Act → World → Prop}
    (hQ : ∀ a' w' ρ', Ext ρ ρ' → ER ρ' a' (es los.length) → a'.defers = [] → Rep w0 ρ' hend w' → Q .normal a' w') :
    ∀ (fuel : Nat) (listed : Array Bool) (a : Act) (w : World), left ops.size listed ≤ fuel → DI ops los w0 ρ env hs lv listed a w → wpAny P .any ops Q fuel listed a w := by
  obtain ⟨hlen, hget⟩ := mapM_get _ _ _ hpre
  have hlen' : ops.size = los.length := by simpa using hlen
  -- the tables, by their meaning
  have pair : ∀ (i j : Nat) (l q : LOper), los[i]? = some l → los[j]? = some q → i ≠ j →
      (∀ d, l.dst = some d → q.dst ≠ some d ∧ (d ∈ q.looksAt → cmpB (befs ops.toList []) i j = true)) ∧ (l.op.changes = true → q.op.changes = true → cmpB (befs ops.toList []) i j = true) ∧
      (l.op.changes = true → q.op.looks = true → cmpB (befs ops.toList []) i j = true ∨ (j, i) ∈ prs) := by
    intro i j l q hl hq hne
    have h1 := List.all_eq_true.1 hd (l, i) (by rw [List.mem_zipIdx_iff_getElem?]; exact hl)
    have h2 := List.all_eq_true.1 h1 (q, j) (by rw [List.mem_zipIdx_iff_getElem?]; exact hq)
    simp only [Bool.or_eq_true, beq_iff_eq, hne, false_or, Bool.and_eq_true] at h2
    obtain ⟨⟨h3, h4⟩, h5⟩ := h2
    refine ⟨fun d hdst => ?_, fun hc1 hc2 => ?_, fun hc1 hc2 => ?_⟩
    · rw [hdst] at h3
      simp only [Bool.and_eq_true, bne_iff_ne, ne_eq, Bool.or_eq_true, Bool.not_eq_true'] at h3
      refine ⟨h3.1, fun hm => ?_⟩
      rcases h3.2 with h | h
      · rw [← Bool.not_eq_true] at h; exact absurd (by simpa using hm) h
      · exact h
    · rw [hc1, hc2] at h4; simpa using h4
    · rw [hc1, hc2] at h5
      simp only [Bool.and_self, Bool.not_true, Bool.false_eq_true, false_or] at h5
      rcases h5 with h | h
      · exact .inl h
      · exact .inr (by simpa using h)
  -- the environments of the listed order
  have esl : ∀ i, i ≤ los.length → (es i).length = env.length := by
    intro i
    induction i with
    | zero => intro _; rw [he0]
    | succ i ih =>
      intro hi
      rw [(hlv i _ (List.getElem?_eq_getElem (by omega))).1, length_putE, ih (by omega)]
  have esB : ∀ (t i : Nat), i ≤ los.length → (∀ (j : Nat) (l : LOper), j < i → los[j]? = some l → l.dst ≠ some t) → (es i).getD t .undef = env.getD t .undef := by
    intro t i
    induction i with
    | zero => intro _ _; rw [he0]
    | succ i ih =>
      intro hi hn
      rw [(hlv i _ (List.getElem?_eq_getElem (by omega))).1, getD_putE, if_neg (fun e => hn i _ (by omega) (List.getElem?_eq_getElem (by omega)) e.1)]
      exact ih (by omega) fun j l hj hl => hn j l (by omega) hl
  have esA : ∀ (t j : Nat) (l : LOper), los[j]? = some l → l.dst = some t → t < env.length → ∀ i, j < i → i ≤ los.length → (es i).getD t .undef = lv j := by
    intro t j l hl hdst ht i
    induction i with
    | zero => intro hj _; omega
    | succ i ih =>
      intro hj hi
      have hli := List.getElem?_eq_getElem (l := los) (i := i) (by omega)
      rw [(hlv i _ hli).1, getD_putE]
      by_cases hij : i = j
      · subst hij
        rw [hl] at hli
        cases hli
        rw [if_pos ⟨hdst, by rw [esl i (by omega)]; exact ht⟩]
      · rw [if_neg (fun e => ((pair j i l _ hl hli (fun x => hij x.symm)).1 t hdst).1 e.1)]
        exact ih (by omega) (by omega)
  -- the heap changes at changes alone
  have hsame : ∀ (i j : Nat), i ≤ j → j ≤ los.length → (∀ (k : Nat) (l : LOper), i ≤ k → k < j → los[k]? = some l → l.op.changes = false) → hs j = hs i := by
    intro i j
    induction j with
    | zero => intro h _ _; have : i = 0 := by omega
              subst this; rfl
    | succ j ih =>
      intro h hj hn
      by_cases he : i = j + 1
      · subst he; rfl
      · have hlj := List.getElem?_eq_getElem (l := los) (i := j) (by omega)
        rw [((hlv j _ hlj).2.2 (hn j _ (by omega) (by omega) hlj)).1]
        exact ih (by omega) (by omega) fun k l h1 h2 => hn k l h1 (by omega)
  have fin : ∀ (listed : Array Bool) (a : Act) (w : World), DI ops los w0 ρ env hs lv listed a w → (∀ i, i < ops.size → listed.getD i true = true) → Q .normal a w := by
    intro listed a w I hall
    obtain ⟨ρ', c, he, hc, hch, hR, hV1, hV2⟩ := I.main
    have hall' : ∀ i, i < ops.size → listed.getD i false = true := fun i hi => by
      have := hall i hi
      rw [Array.getD_eq_getD_getElem?, Array.getElem?_eq_getElem (by rw [I.size]; exact hi)] at this ⊢
      simpa using this
    have hhc : hs los.length = hs c := hsame c los.length hc (Nat.le_refl _) fun k l h1 h2 hl => by
      cases hcg : l.op.changes with
      | false => rfl
      | true => have := (hch k l hl hcg).1 (hall' k (by omega)); omega
    refine hQ a w ρ' he ?_ I.defers (by rw [← hlast, hhc]; exact hR)
    refine ⟨by simp [I.tsz, esl los.length (Nat.le_refl _)], fun t v l hv hl => ?_⟩
    have ht : t < env.length := by have := lt_of_getElem? hl; rwa [esl _ (Nat.le_refl _)] at this
    have e1 : a.tmps.getD t undef = v := by
      rw [Array.getD_eq_getD_getElem?, show a.tmps[t]? = some v by simpa using hv]; rfl
    have e2 : (es los.length).getD t .undef = l := by rw [List.getD_eq_getElem?_getD, hl]; rfl
    rw [← e1, ← e2]
    by_cases hw : ∃ (j : Nat) (q : LOper), los[j]? = some q ∧ q.dst = some t
    · obtain ⟨j, q, hq, hdst⟩ := hw
      have hj := lt_of_getElem? hq
      rw [esA t j q hq hdst ht los.length hj (Nat.le_refl _)]
      exact hV2 j q t ht hq (hall' j (by omega)) hdst
    · rw [esB t los.length (Nat.le_refl _) fun j q _ hq hdst => hw ⟨j, q, hq, hdst⟩]
      exact hV1 t ht fun j q hq _ hdst => hw ⟨j, q, hq, hdst⟩
  intro fuel
  induction fuel with
  | zero =>
    intro listed a w hleft I
    have hall : ∀ i, i < ops.size → listed.getD i true = true := by
      intro i hi
      cases hl : listed.getD i true with
      | true => rfl
      | false => have := left_set I.size hi hl; omega
    refine ⟨?_, fin listed a w I hall⟩
    cases hr : Region.ready .any ops listed with
    | nil => rfl
    | cons x xs =>
      have hx : x ∈ Region.ready .any ops listed := by rw [hr]; simp
      obtain ⟨h1, h2, _⟩ := mem_ready hx
      rw [hall x h1] at h2; cases h2
  | succ fuel ih =>
    intro listed a w hleft I
    refine ⟨fun hr => fin listed a w I (ready_left hb I.size hr), fun i hi => ?_⟩
    obtain ⟨hin, hil, o, ho, hedges⟩ := mem_ready hi
    have hli := List.getElem?_eq_getElem (l := los) (i := i) (by omega)
    generalize hl0 : los[i] = l at hli
    have hpo := hget i o l (by simpa using ho) hli
    obtain ⟨ρ', c, he, hc, hch, hR, hV1, hV2⟩ := I.main
    have hil' : listed.getD i false = false := by
      rw [Array.getD_eq_getD_getElem?] at hil ⊢
      rw [Array.getElem?_eq_getElem (by rw [I.size]; exact hin)] at hil ⊢
      simpa using hil
    -- what is ordered with i
    have ordered : ∀ j, cmpB (befs ops.toList []) i j = true → (j < i ∧ listed.getD j false = true) ∨ (i < j ∧ listed.getD j false = false) := by
      intro j hcmp
      unfold cmpB at hcmp
      rw [Bool.or_eq_true] at hcmp
      rcases hcmp with h1 | h1
      · refine .inl ⟨befs_lt hb i j h1, ?_⟩
        obtain ⟨o', e, ho', hem, hbe, _, h2⟩ := befs_bit hb h1
        have : o' = o := by
          have h3 : ops[i]? = some o' := by simpa using ho'
          rw [ho] at h3; cases h3; rfl
        subst this
        have hon := hedges e hem hbe
        have hon' : listed.getD e.on false = true := by
          rw [Array.getD_eq_getD_getElem?] at hon ⊢
          cases hx : listed[e.on]? with
          | none =>
            have hlt : e.on < ops.size := by omega
            rw [Array.getElem?_eq_getElem (by rw [I.size]; exact hlt)] at hx; cases hx
          | some b => rw [hx] at hon; simpa using hon
        rcases h2 with rfl | h2
        · exact hon'
        · exact closed_bef hb I.closed e.on j hon' h2
      · refine .inr ⟨befs_lt hb j i h1, ?_⟩
        cases hj : listed.getD j false with
        | false => rfl
        | true => have := closed_bef hb I.closed j i hj h1; rw [hil'] at this; cases this
    have cmp_symm : ∀ i j, cmpB (befs ops.toList []) i j = cmpB (befs ops.toList []) j i := fun i j => by unfold cmpB; rw [Bool.or_comm]
    -- the environment in which it is carried out
    let envX : Env := (List.range env.length).map fun t => if t ∈ l.looksAt then (es i).getD t .undef else .undef
    have hXlen : envX.length = env.length := by simp [envX]
    have hXget : ∀ t, t < env.length → envX.getD t .undef = if t ∈ l.looksAt then (es i).getD t .undef else .undef := by
      intro t ht
      simp only [envX, List.getD_eq_getElem?_getD, List.getElem?_map, List.getElem?_range ht]
      rfl
    have hXl : ∀ t ∈ l.looksAt, envX.getD t .undef = (es i).getD t .undef := by
      intro t ht
      rcases Nat.lt_or_ge t env.length with hlt | hge
      · rw [hXget t hlt, if_pos ht]
      · rw [List.getD_eq_getElem?_getD, List.getElem?_eq_none (by rw [hXlen]; exact hge), List.getD_eq_getElem?_getD, List.getElem?_eq_none (by rw [esl i (by omega)]; exact hge)]
    have hXER : ER ρ' a envX := by
      refine ⟨by simp [hXlen, I.tsz], fun t v lx hv hlx => ?_⟩
      have ht : t < env.length := by have := lt_of_getElem? hlx; rwa [hXlen] at this
      have e1 : a.tmps.getD t undef = v := by
        rw [Array.getD_eq_getD_getElem?, show a.tmps[t]? = some v by simpa using hv]; rfl
      have e2 : envX.getD t .undef = lx := by rw [List.getD_eq_getElem?_getD, hlx]; rfl
      rw [hXget t ht] at e2
      split at e2
      · rename_i hlook
        rw [← e1, ← e2]
        by_cases hw : ∃ (j : Nat) (q : LOper), j < i ∧ los[j]? = some q ∧ q.dst = some t
        · obtain ⟨j, q, hj, hq, hdst⟩ := hw
          rw [esA t j q hq hdst ht i hj (by omega)]
          have hcmp := ((pair j i q l hq hli (by omega)).1 t hdst).2 hlook
          rw [cmp_symm] at hcmp
          rcases ordered j hcmp with ⟨_, h2⟩ | ⟨h1, _⟩
          · exact hV2 j q t ht hq h2 hdst
          · omega
        · rw [esB t i (by omega) fun j q hj hq hdst => hw ⟨j, q, hj, hq, hdst⟩]
          refine hV1 t ht fun j q hq hjl hdst => ?_
          by_cases hji : j = i
          · subst hji; rw [hil'] at hjl; cases hjl
          · rcases Nat.lt_or_ge j i with hlt | hge
            · exact hw ⟨j, q, hlt, hq, hdst⟩
            · have hcmp := ((pair j i q l hq hli hji).1 t hdst).2 hlook
              rw [cmp_symm] at hcmp
              rcases ordered j hcmp with ⟨h1, _⟩ | ⟨_, h2⟩
              · omega
              · rw [h2] at hjl; cases hjl
      · rw [← e2]; exact .undef _
    -- the heap in which it is carried out
    have hrun : ∃ H', operE cf lo l envX (hs c) = some (putE envX l.dst (lv i), H') ∧ ∃ c', c' ≤ los.length ∧ H' = hs c' ∧
        (∀ (j : Nat) (q : LOper), los[j]? = some q → q.op.changes = true → ((listed.setIfInBounds i true).getD j false = true ↔ j < c')) := by
      cases hcg : l.op.changes with
      | true =>
        have hci : hs c = hs i := by
          have hk : ∀ (k : Nat) (q : LOper), los[k]? = some q → q.op.changes = true → (k < c ↔ k < i) := by
            intro k q hq hqc
            by_cases hki : k = i
            · subst hki
              have := (hch k q hq hqc)
              rw [hil'] at this
              constructor
              · intro h; exact absurd (this.2 h) (by simp)
              · intro h; omega
            · have hcmp := (pair i k l q hli hq (fun e => hki e.symm)).2.1 hcg hqc
              rcases ordered k hcmp with ⟨h1, h2⟩ | ⟨h1, h2⟩
              · have := (hch k q hq hqc).1 h2; omega
              · have := (hch k q hq hqc)
                rw [h2] at this
                constructor
                · intro h; exact absurd (this.2 h) (by simp)
                · intro h; omega
          rcases Nat.le_total c i with hle | hle
          · exact (hsame c i hle (by omega) fun k q h1 h2 hq => by
              cases hqc : q.op.changes with
              | false => rfl
              | true => have := (hk k q hq hqc).2 h2; omega).symm
          · exact hsame i c hle hc fun k q h1 h2 hq => by
              cases hqc : q.op.changes with
              | false => rfl
              | true => have := (hk k q hq hqc).1 h2; omega
        refine ⟨hs (i + 1), by rw [hci]; exact (hlv i l hli).2.1 envX hXl, i + 1, by omega, rfl, fun j q hq hqc => ?_⟩
        rw [getD_set (by rw [I.size]; exact hin)]
        by_cases hji : j = i
        · subst hji; simp
        · rw [if_neg hji]
          have hcmp := (pair i j l q hli hq (fun e => hji e.symm)).2.1 hcg hqc
          rcases ordered j hcmp with ⟨h1, h2⟩ | ⟨h1, h2⟩
          · simp [h2]; omega
          · simp [h2]; omega
      | false =>
        obtain ⟨_, hq2⟩ := (hlv i l hli).2.2 hcg
        refine ⟨hs c, hq2 envX (hs c) hXl (fun n hn => ?_), c, hc, rfl, fun j q hq hqc => ?_⟩
        · -- the block that is read
          have hlk : l.op.looks = true := by
            cases hlk : l.op.looks with
            | true => rfl
            | false => rw [hlooks _ _ hlk hcg] at hn; cases hn
          have one : ∀ (k : Nat) (q : LOper), los[k]? = some q → ((k < c ∧ i ≤ k) ∨ (c ≤ k ∧ k < i)) → (hs (k + 1))[n]? = (hs k)[n]? := by
            intro k q hq hk
            cases hqc : q.op.changes with
            | false => rw [((hlv k q hq).2.2 hqc).1]
            | true =>
              have hki : k ≠ i := by rintro rfl; rw [hli] at hq; cases hq; rw [hcg] at hqc; cases hqc
              rcases (pair k i q l hq hli hki).2.2 hqc hlk with hcmp | hmem
              · rw [cmp_symm] at hcmp
                rcases ordered k hcmp with ⟨h1, h2⟩ | ⟨h1, h2⟩
                · have := (hch k q hq hqc).1 h2; omega
                · have h3 := (hch k q hq hqc)
                  rw [h2] at h3
                  rcases hk with hk | hk
                  · exact absurd (h3.2 hk.1) (by simp)
                  · omega
              · have h1 := hok (i, k) hmem n (hs i) (by rw [(hst i l hli).2, hn]) (readsE q.op (es k)) (hs k) (hst k q hq).2
                rw [h1]
                have hk' := lt_of_getElem? hq
                rcases Nat.lt_or_ge (k + 1) los.length with hlt | hge
                · rw [(hst (k + 1) _ (List.getElem?_eq_getElem hlt)).2]; rfl
                · have : k + 1 = los.length := by omega
                  have e1 : tr[k + 1]? = none := List.getElem?_eq_none (by rw [htl]; omega)
                  rw [e1, this, hlast]; rfl
          have chain : ∀ (p q : Nat), p ≤ q → q ≤ los.length → (∀ k, p ≤ k → k < q → (hs (k + 1))[n]? = (hs k)[n]?) → (hs q)[n]? = (hs p)[n]? := by
            intro p q
            induction q with
            | zero => intro h _ _; have : p = 0 := by omega
                      subst this; rfl
            | succ q ihq =>
              intro h hq hk
              by_cases hpq : p = q + 1
              · subst hpq; rfl
              · rw [hk q (by omega) (by omega)]; exact ihq (by omega) (by omega) fun k h1 h2 => hk k h1 (by omega)
          rcases Nat.le_total c i with hle | hle
          · exact (chain c i hle (by omega) fun k h1 h2 => one k _ (List.getElem?_eq_getElem (by omega)) (.inr ⟨h1, h2⟩)).symm
          · exact chain i c hle hc fun k h1 h2 => one k _ (List.getElem?_eq_getElem (by omega)) (.inl ⟨h2, h1⟩)
        · rw [getD_set (by rw [I.size]; exact hin)]
          by_cases hji : j = i
          · subst hji; rw [hli] at hq; cases hq; rw [hcg] at hqc; cases hqc
          · rw [if_neg hji]; exact hch j q hq hqc
    obtain ⟨H', hopr, c', hc', rfl, hch'⟩ := hrun
    have hdst : l.dst = o.dst := by
      unfold preOper at hpo
      (repeat' split at hpo) <;> first | (cases hpo; done) | (cases hpo; rfl)
    have step := oper_wp (next := wpAny P .any ops Q fuel (listed.setIfInBounds i true)) (Q := Q) hpo hcf hXER hR hopr fun v lx w' ρ'' he' hR' hv henv => by
      have hv' : ∀ t, o.dst = some t → t < env.length → VR ρ'' v (lv i) := by
        intro t hdt ht
        have := congrArg (fun e : Env => e.getD t .undef) henv
        simp only [getD_putE, hdst, hdt, hXlen, ht, and_self, if_true] at this
        rw [this]; exact hv
      refine ih (listed.setIfInBounds i true) (a.put o.dst v) w' (by have := left_set I.size hin hil; omega) ⟨?_, by simp [I.size], ?_, ?_, ρ'', c', he.trans he', hc', hch', hR', ?_, ?_⟩
      · intro j oj hoj hjl e hem hbe
        rw [getD_set (by rw [I.size]; exact hin)] at hjl ⊢
        by_cases hei : e.on = i
        · rw [if_pos hei]
        · rw [if_neg hei]
          by_cases hji : j = i
          · subst hji
            rw [ho] at hoj; cases hoj
            have hon := hedges e hem hbe
            have hlt : e.on < j := by
              have h1 := List.all_eq_true.1 hb (o, j) (by rw [List.mem_zipIdx_iff_getElem?]; simpa using ho)
              have h2 := List.all_eq_true.1 h1 e hem
              simpa [hbe] using h2
            rw [Array.getD_eq_getD_getElem?] at hon ⊢
            rw [Array.getElem?_eq_getElem (by rw [I.size]; omega)] at hon ⊢
            simpa using hon
          · rw [if_neg hji] at hjl
            exact I.closed j oj hoj hjl e hem hbe
      · cases hdo : o.dst <;> simp [Act.put, I.tsz]
      · cases hdo : o.dst <;> simp [Act.put, I.defers]
      · intro t ht hno
        have hti : o.dst ≠ some t := by
          rw [← hdst]
          exact hno i l hli (by rw [getD_set (by rw [I.size]; exact hin)]; simp)
        rw [getD_put, if_neg (fun e => hti e.1)]
        refine (hV1 t ht fun j q hq hjl => ?_).mono he'
        refine hno j q hq ?_
        rw [getD_set (by rw [I.size]; exact hin)]
        split
        · rfl
        · exact hjl
      · intro j q t ht hq hjl hdq
        rw [getD_set (by rw [I.size]; exact hin)] at hjl
        by_cases hji : j = i
        · subst hji
          rw [hli] at hq; cases hq
          rw [getD_put, if_pos ⟨by rw [← hdst]; exact hdq, by rw [I.tsz]; exact ht⟩]
          exact hv' t (by rw [← hdst]; exact hdq) ht
        · rw [if_neg hji] at hjl
          have hne : o.dst ≠ some t := by
            rw [← hdst]
            exact ((pair j i q l hq hli hji).1 t hdq).1
          rw [getD_put, if_neg (fun e => hne e.1)]
          exact (hV2 j q t ht hq hjl hdq).mono he'
    unfold wpOp
    simp only [ho]
    by_cases hw : Region.wanted o (yielded ops a.tmps) = true
    · rw [if_pos hw] at step ⊢; exact .inl step
    · rw [if_neg hw] at step ⊢; exact step
end
end Lg
