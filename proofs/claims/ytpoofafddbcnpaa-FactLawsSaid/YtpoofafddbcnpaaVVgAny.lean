/- Regions of open order: every order comes to what the listed one does. -/
import Derived.Test.YtpoofafddbcnpaaVVgDraw
namespace Vg
open Go Lg
set_option linter.unusedSimpArgs false
set_option linter.unusedVariables false
set_option maxHeartbeats 1000000
section
variable {cf : VCall} {lo : Nat}

theorem putV_len {env : VEnv} {d : Option Nat} {v : VV} : (putV env d v).length = env.length := by cases d <;> simp [putV]
theorem strip_len {env : VEnv} {op : LOp} : (strip op env).length = env.length := by unfold strip; split <;> simp
theorem putV_get {env : VEnv} {d : Option Nat} {v : VV} {t : Nat} : (putV env d v).getD t .undef = if d = some t ∧ t < env.length then v else env.getD t .undef := by
  cases d with
  | none => simp [putV]
  | some d =>
    simp only [putV, List.getD_eq_getElem?_getD, List.getElem?_set]
    by_cases h : d = t
    · subst h
      by_cases h2 : d < env.length
      · simp [h2]
      · simp [h2]
    · simp [h]
theorem strip_get {env : VEnv} {op : LOp} {t : Nat} : (strip op env).getD t .undef = if loses op = some t then (env.getD t .undef).sh else env.getD t .undef := by
  unfold strip
  cases hl : loses op with
  | none => simp
  | some n =>
    simp only [List.getD_eq_getElem?_getD, List.getElem?_set]
    by_cases h : n = t
    · subst h
      by_cases h2 : n < env.length
      · simp [h2]
      · simp [h2, List.getElem?_eq_none (Nat.le_of_not_lt h2), VV.sh]
    · simp [h]

/-- An operation looks at its own temporaries alone. -/
theorem operV_local {o : LOper} {env env' env2 : VEnv} {h h' h2 : VHeap} (hE : operV cf lo o env h = some (env', h')) (hl : env2.length = env.length) (hc : ∀ t ∈ o.looksAt, env2.getD t .undef = env.getD t .undef) (hh : touch o.op ≠ 0 → h2 = h) :
    ∃ env2' h2', operV cf lo o env2 h2 = some (env2', h2') ∧ env2'.length = env.length ∧ (touch o.op ≠ 2 → h' = h ∧ h2' = h2) ∧ (touch o.op = 2 → h2' = h') ∧
      ∀ t, (t ∉ setsOf o → env2'.getD t .undef = env2.getD t .undef ∧ env'.getD t .undef = env.getD t .undef) ∧ (t ∈ setsOf o → env2'.getD t .undef = env'.getD t .undef) := by
  have hop : ∀ n ∈ tmpsOf o.op.xs, env2.getD n .undef = env.getD n .undef := fun n hn => hc n (by
    unfold LOper.looksAt; exact List.mem_append_left _ hn)
  have hls : ∀ n, loses o.op = some n → env2.getD n .undef = env.getD n .undef := fun n hn => hop n (by
    refine mem_tmpsOf ?_
    cases ho : o.op <;> rw [ho] at hn <;> simp only [loses] at hn <;> first | (cases hn; done) | skip
    · rename_i m x; cases m <;> cases x <;> simp at hn; subst hn; simp [LOp.xs]
    · rename_i a b c; cases c <;> simp at hn; subst hn; simp [LOp.xs]
    · rename_i a b c x y; cases x <;> simp at hn; subst hn; simp [LOp.xs])
  have one : ∀ {env' h'}, (match opV cf lo o.op env h with
      | some (v, h') => some (putV (strip o.op env) o.dst v, h')
      | none => none) = some (env', h') → ∃ env2' h2', (match opV cf lo o.op env2 h2 with
      | some (v, h') => some (putV (strip o.op env2) o.dst v, h')
      | none => none) = some (env2', h2') ∧ env2'.length = env.length ∧ (touch o.op ≠ 2 → h' = h ∧ h2' = h2) ∧ (touch o.op = 2 → h2' = h') ∧
      ∀ t, (t ∉ setsOf o → env2'.getD t .undef = env2.getD t .undef ∧ env'.getD t .undef = env.getD t .undef) ∧ (t ∈ setsOf o → env2'.getD t .undef = env'.getD t .undef) := by
    intro env' h' h1
    split at h1
    case h_2 => cases h1
    rename_i v h3 hv
    simp only [Option.some.injEq, Prod.mk.injEq] at h1
    obtain ⟨rfl, rfl⟩ := h1
    have key : ∃ h4, opV cf lo o.op env2 h2 = some (v, h4) ∧ (touch o.op ≠ 2 → h3 = h ∧ h4 = h2) ∧ (touch o.op = 2 → h4 = h3) := by
      by_cases h0 : touch o.op = 0
      · have := touch0 h0 hv h2
        refine ⟨h2, by rw [opV_cong hop]; exact this, fun _ => ⟨touch1 (by rw [h0]; decide) hv, rfl⟩, fun h => by rw [h0] at h; cases h⟩
      · have e := hh h0
        subst e
        exact ⟨h3, by rw [opV_cong hop]; exact hv, fun h => ⟨touch1 h hv, touch1 h hv⟩, fun _ => rfl⟩
    obtain ⟨h4, h5, h6, h7⟩ := key
    refine ⟨_, h4, by rw [h5], by rw [putV_len, strip_len, hl], h6, h7, fun t => ⟨fun hn => ?_, fun hm => ?_⟩⟩
    · have h1 : o.dst ≠ some t := fun e => hn (by unfold setsOf; rw [e]; simp)
      have h2 : loses o.op ≠ some t := fun e => hn (by unfold setsOf; rw [e]; simp)
      simp only [putV_get, h1, false_and, if_false, strip_get, h2]
      exact ⟨trivial, trivial⟩
    · simp only [putV_get, strip_len, hl, strip_get]
      by_cases hd : o.dst = some t
      · by_cases hlt : t < env.length
        · simp [hd, hlt]
        · simp only [hd, true_and, hlt, if_false]
          have e1 : env2.getD t .undef = .undef := by rw [List.getD_eq_getElem?_getD, List.getElem?_eq_none (by omega)]; rfl
          have e2 : env.getD t .undef = .undef := by rw [List.getD_eq_getElem?_getD, List.getElem?_eq_none (by omega)]; rfl
          rw [e1, e2]
      · have hlm : loses o.op = some t := by
          unfold setsOf at hm
          rcases List.mem_append.1 hm with h | h
          · cases hdd : o.dst with
            | none => rw [hdd] at h; simp at h
            | some d => rw [hdd] at h; simp at h; subst h; exact absurd hdd hd
          · cases hll : loses o.op with
            | none => rw [hll] at h; simp at h
            | some d => rw [hll] at h; simp at h; subst h; rfl
        simp only [hd, false_and, if_false, hlm, if_true, hls t hlm]
  have skip : ∀ {env' h'}, some (putV env o.dst (.tup []), h) = some (env', h') → ∃ env2' h2', some (putV env2 o.dst (.tup []), h2) = some (env2', h2') ∧ env2'.length = env.length ∧ (touch o.op ≠ 2 → h' = h ∧ h2' = h2) ∧ (touch o.op = 2 → h2' = h') ∧
      ∀ t, (t ∉ setsOf o → env2'.getD t .undef = env2.getD t .undef ∧ env'.getD t .undef = env.getD t .undef) ∧ (t ∈ setsOf o → env2'.getD t .undef = env'.getD t .undef) := by
    intro env' h' h1
    simp only [Option.some.injEq, Prod.mk.injEq] at h1
    obtain ⟨rfl, rfl⟩ := h1
    refine ⟨_, h2, rfl, by rw [putV_len, hl], fun _ => ⟨rfl, rfl⟩, fun h => hh (by rw [h]; decide), fun t => ⟨fun hn => ?_, fun hm => ?_⟩⟩
    · have h1 : o.dst ≠ some t := fun e => hn (by unfold setsOf; rw [e]; simp)
      simp only [putV_get, h1, false_and, if_false]
      exact ⟨trivial, trivial⟩
    · simp only [putV_get, hl]
      by_cases hd : o.dst = some t
      · by_cases hlt : t < env.length
        · simp [hd, hlt]
        · simp only [hd, true_and, hlt, if_false]
          have e1 : env2.getD t .undef = .undef := by rw [List.getD_eq_getElem?_getD, List.getElem?_eq_none (by omega)]; rfl
          have e2 : env.getD t .undef = .undef := by rw [List.getD_eq_getElem?_getD, List.getElem?_eq_none (by omega)]; rfl
          rw [e1, e2]
      · have hlm : loses o.op = some t := by
          unfold setsOf at hm
          rcases List.mem_append.1 hm with h | h
          · cases hdd : o.dst with
            | none => rw [hdd] at h; simp at h
            | some d => rw [hdd] at h; simp at h; subst h; exact absurd hdd hd
          · cases hll : loses o.op with
            | none => rw [hll] at h; simp at h
            | some d => rw [hll] at h; simp at h; subst h; rfl
        simp only [hd, false_and, if_false, hls t hlm]
  unfold operV at hE ⊢
  cases hg : o.guard with
  | none => rw [hg] at hE; exact one hE
  | some g =>
    obtain ⟨g, want⟩ := g
    rw [hg] at hE
    simp only at hE ⊢
    have hge : env2.getD g .undef = env.getD g .undef := hc g (by unfold LOper.looksAt; rw [hg]; simp)
    rw [hge]
    split at hE
    · rename_i b hb
      (try rw [hb])
      (try simp only)
      split at hE
      · rename_i hw; rw [if_pos hw]; exact one hE
      · rename_i hw; rw [if_neg hw]; exact skip hE
    · rename_i vs hb
      (try rw [hb])
      exact skip hE
    · cases hE

/-- The states of the listed order. -/
theorem opsV_states : ∀ (l : List LOper) (env : VEnv) (h : VHeap) (env' : VEnv) (h' : VHeap), opsV cf lo l env h = some (env', h') → ∃ (es : Nat → VEnv) (hs : Nat → VHeap), es 0 = env ∧ hs 0 = h ∧ es l.length = env' ∧ hs l.length = h' ∧
    ∀ (i : Nat) (o : LOper), l[i]? = some o → operV cf lo o (es i) (hs i) = some (es (i + 1), hs (i + 1))
  | [], env, h, env', h', hE => by
    simp only [opsV, Option.some.injEq, Prod.mk.injEq] at hE
    obtain ⟨rfl, rfl⟩ := hE
    exact ⟨fun _ => env, fun _ => h, rfl, rfl, rfl, rfl, fun i o hi => by simp at hi⟩
  | o :: l, env, h, env', h', hE => by
    simp only [opsV] at hE
    split at hE
    case h_2 => cases hE
    rename_i env1 h1 ho
    obtain ⟨es, hs, e0, e1, e2, e3, e4⟩ := opsV_states l env1 h1 env' h' hE
    refine ⟨fun i => match i with | 0 => env | i + 1 => es i, fun i => match i with | 0 => h | i + 1 => hs i, rfl, rfl, e2, e3, fun i q hi => ?_⟩
    cases i with
    | zero => simp at hi; subst hi; simp only [e0, e1]; exact ho
    | succ i => exact e4 i q (by simpa using hi)

/-- Two operations that have to do with one another. -/
def Conf (p q : LOper) : Prop := (∃ t ∈ setsOf p, t ∈ setsOf q ∨ t ∈ q.looksAt) ∨ (touch p.op = 2 ∧ touch q.op ≠ 0)

theorem drawC_ord {bs : List Nat} {l : List LOper} (hd : drawC bs l = true) : (∀ i, i < l.length → ∀ k, (bs.getD i 0).testBit k = true → k < i) ∧
    ∀ (i j : Nat) (p q : LOper), l[i]? = some p → l[j]? = some q → i < j → (Conf p q ∨ Conf q p) → (bs.getD j 0).testBit i = true := by
  have h0 : ∀ i, i < l.length → ∀ k, (bs.getD i 0).testBit k = true → k < i := by
    intro i hi k hk
    have h1 := List.all_eq_true.1 hd (l[i], i) (by rw [List.mem_zipIdx_iff_getElem?]; exact List.getElem?_eq_getElem hi)
    simp only [Bool.and_eq_true, decide_eq_true_eq] at h1
    rcases Nat.lt_or_ge k i with h | h
    · exact h
    · have h2 : bs.getD i 0 < 2 ^ k := Nat.lt_of_lt_of_le h1.1 (Nat.pow_le_pow_right (by decide) h)
      rw [Nat.testBit_lt_two_pow h2] at hk; cases hk
  refine ⟨h0, fun i j p q hp hq hij hc => ?_⟩
  have key : ∀ (i j : Nat) (p q : LOper), l[i]? = some p → l[j]? = some q → i ≠ j → Conf p q → cmpB bs i j = true := by
    intro i j p q hp hq hij hc
    have h1 := List.all_eq_true.1 hd (p, i) (by rw [List.mem_zipIdx_iff_getElem?]; exact hp)
    simp only [Bool.and_eq_true] at h1
    have h2 := List.all_eq_true.1 h1.2 (q, j) (by rw [List.mem_zipIdx_iff_getElem?]; exact hq)
    simp only [Bool.or_eq_true, beq_iff_eq, hij, false_or, Bool.and_eq_true] at h2
    rcases h2 with h2 | ⟨h2, h3⟩
    · exact h2
    · exfalso
      rcases hc with ⟨t, ht, hm⟩ | ⟨ha, hb⟩
      · have := List.all_eq_true.1 h2 t ht
        simp only [Bool.not_eq_true', List.contains_eq_mem, List.mem_append, decide_eq_false_iff_not, not_or] at this
        rcases hm with hm | hm
        · exact this.1 hm
        · exact this.2 hm
      · simp only [ha, beq_self_eq_true, Bool.true_and, Bool.not_eq_true', decide_eq_false_iff_not] at h3
        omega
  have hcmp : cmpB bs i j = true := by
    rcases hc with hc | hc
    · exact key i j p q hp hq (by omega) hc
    · have := key j i q p hq hp (by omega) hc
      unfold cmpB at this ⊢
      rw [Bool.or_comm]; exact this
  unfold cmpB at hcmp
  rw [Bool.or_eq_true] at hcmp
  rcases hcmp with h | h
  · have := h0 i (lt_of_getElem? hp) j h; omega
  · exact h

/-- What holds when some operations are done. -/
structure DI (l : List LOper) (bs : List Nat) (es : Nat → VEnv) (hs : Nat → VHeap) (done : Nat → Bool) (env : VEnv) (h : VHeap) : Prop where
  lt : ∀ i, done i = true → i < l.length
  closed : ∀ i j, done i = true → (bs.getD i 0).testBit j = true → done j = true
  len : env.length = (es 0).length
  fresh : ∀ t, (∀ j o, l[j]? = some o → done j = true → t ∉ setsOf o) → env.getD t .undef = (es 0).getD t .undef
  last : ∀ t j o, l[j]? = some o → done j = true → t ∈ setsOf o → (∀ k q, l[k]? = some q → done k = true → t ∈ setsOf q → k ≤ j) → env.getD t .undef = (es (j + 1)).getD t .undef
  heap : ∃ c, c ≤ l.length ∧ (∀ i o, l[i]? = some o → touch o.op = 2 → (done i = true ↔ i < c)) ∧ h = hs c

section
variable {l : List LOper} {bs : List Nat} {es : Nat → VEnv} {hs : Nat → VHeap}

theorem es_len (hst : ∀ (i : Nat) (o : LOper), l[i]? = some o → operV cf lo o (es i) (hs i) = some (es (i + 1), hs (i + 1))) : ∀ i, i ≤ l.length → (es i).length = (es 0).length
  | 0, _ => rfl
  | i + 1, hi => by
    obtain ⟨o, ho⟩ : ∃ o, l[i]? = some o := ⟨_, List.getElem?_eq_getElem (by omega)⟩
    obtain ⟨e2, h2, h3, h4, _⟩ := operV_local (hst i o ho) rfl (fun _ _ => rfl) (fun _ => rfl)
    rw [hst i o ho] at h3
    cases h3
    rw [h4, es_len hst i (by omega)]
/-- Between, where nobody touches a slot. -/
theorem es_same (hst : ∀ (i : Nat) (o : LOper), l[i]? = some o → operV cf lo o (es i) (hs i) = some (es (i + 1), hs (i + 1))) {t : Nat} : ∀ (b a : Nat), a ≤ b → b ≤ l.length → (∀ k q, l[k]? = some q → a ≤ k → k < b → t ∉ setsOf q) → (es b).getD t .undef = (es a).getD t .undef := by
  intro b
  induction b with
  | zero => intro a ha _ _; have : a = 0 := by omega
            subst this; rfl
  | succ b ih =>
    intro a ha hb hn
    by_cases he : a = b + 1
    · subst he; rfl
    · obtain ⟨o, ho⟩ : ∃ o, l[b]? = some o := ⟨_, List.getElem?_eq_getElem (by omega)⟩
      obtain ⟨e2, h2, h3, _, _, _, h7⟩ := operV_local (hst b o ho) rfl (fun _ _ => rfl) (fun _ => rfl)
      rw [((h7 t).1 (hn b o ho (by omega) (by omega))).2]
      exact ih a (by omega) (by omega) fun k q hk h1 h2 => hn k q hk h1 (by omega)
theorem hs_same (hst : ∀ (i : Nat) (o : LOper), l[i]? = some o → operV cf lo o (es i) (hs i) = some (es (i + 1), hs (i + 1))) : ∀ (b a : Nat), a ≤ b → b ≤ l.length → (∀ k q, l[k]? = some q → a ≤ k → k < b → touch q.op ≠ 2) → hs b = hs a := by
  intro b
  induction b with
  | zero => intro a ha _ _; have : a = 0 := by omega
            subst this; rfl
  | succ b ih =>
    intro a ha hb hn
    by_cases he : a = b + 1
    · subst he; rfl
    · obtain ⟨o, ho⟩ : ∃ o, l[b]? = some o := ⟨_, List.getElem?_eq_getElem (by omega)⟩
      obtain ⟨e2, h2, h3, _, h5, _, _⟩ := operV_local (hst b o ho) rfl (fun _ _ => rfl) (fun _ => rfl)
      rw [(h5 (hn b o ho (by omega) (by omega))).1]
      exact ih a (by omega) (by omega) fun k q hk h1 h2 => hn k q hk h1 (by omega)
/-- The last one of some numbers. -/
theorem last_of (p : Nat → Prop) : ∀ n, (∃ i, i < n ∧ p i) → ∃ i, i < n ∧ p i ∧ ∀ k, k < n → p k → k ≤ i := by
  intro n
  induction n with
  | zero => rintro ⟨i, hi, _⟩; omega
  | succ n ih =>
    intro h
    by_cases hn : p n
    · exact ⟨n, by omega, hn, fun k hk _ => by omega⟩
    · obtain ⟨i, hi, hp⟩ := h
      have hin : i ≠ n := fun e => hn (e ▸ hp)
      obtain ⟨j, h1, h2, h3⟩ := ih ⟨i, by omega, hp⟩
      exact ⟨j, by omega, h2, fun k hk hpk => h3 k (by have : k ≠ n := fun e => hn (e ▸ hpk); omega) hpk⟩

theorem DI.step {done : Nat → Bool} {env : VEnv} {h : VHeap} (hst : ∀ (i : Nat) (o : LOper), l[i]? = some o → operV cf lo o (es i) (hs i) = some (es (i + 1), hs (i + 1))) (hd : drawC bs l = true) (I : DI l bs es hs done env h) {i : Nat} {o : LOper} (ho : l[i]? = some o) (hi : done i = false) (hb : ∀ j, (bs.getD i 0).testBit j = true → done j = true) :
    ∃ env' h', operV cf lo o env h = some (env', h') ∧ DI l bs es hs (fun j => done j || j == i) env' h' := by
  obtain ⟨hbl, hord⟩ := drawC_ord hd
  have hil := lt_of_getElem? ho
  -- whoever has to do with it
  have bef : ∀ j q, l[j]? = some q → j ≠ i → (Conf q o ∨ Conf o q) → (done j = true ↔ j < i) := by
    intro j q hq hne hc
    rcases Nat.lt_or_gt_of_ne hne with hlt | hgt
    · exact ⟨fun _ => hlt, fun _ => hb j (hord j i q o hq ho hlt hc)⟩
    · refine ⟨fun hdj => ?_, fun h => by omega⟩
      have := I.closed j i hdj (hord i j o q ho hq hgt hc.symm)
      rw [hi] at this; cases this
  have hlook : ∀ t ∈ o.looksAt, env.getD t .undef = (es i).getD t .undef := by
    intro t ht
    by_cases hex : ∃ j, j < i ∧ ∃ q, l[j]? = some q ∧ t ∈ setsOf q
    · obtain ⟨j, hji, ⟨q, hq, hm⟩, hmax⟩ := last_of (fun j => ∃ q, l[j]? = some q ∧ t ∈ setsOf q) i hex
      have hdj := (bef j q hq (by omega) (.inl (.inl ⟨t, hm, .inr ht⟩))).2 hji
      rw [I.last t j q hq hdj hm fun k r hr hdk hmk => by
        by_cases hki : k = i
        · subst hki; rw [hi] at hdk; cases hdk
        · exact hmax k ((bef k r hr hki (.inl (.inl ⟨t, hmk, .inr ht⟩))).1 hdk) ⟨r, hr, hmk⟩]
      refine (es_same hst i (j + 1) (by omega) (by omega) fun k r hr h1 h2 hmk => ?_).symm
      have := hmax k h2 ⟨r, hr, hmk⟩
      omega
    · rw [I.fresh t fun j q hq hdj hm => by
        by_cases hji : j = i
        · subst hji; rw [hi] at hdj; cases hdj
        · exact hex ⟨j, (bef j q hq hji (.inl (.inl ⟨t, hm, .inr ht⟩))).1 hdj, q, hq, hm⟩]
      exact (es_same hst i 0 (by omega) (by omega) fun k r hr _ h2 hmk => hex ⟨k, h2, r, hr, hmk⟩).symm
  obtain ⟨c, hc1, hc2, hc3⟩ := I.heap
  have hheap : touch o.op ≠ 0 → h = hs i := by
    intro h0
    rw [hc3]
    have hw : ∀ j q, l[j]? = some q → touch q.op = 2 → j ≠ i → (j < c ↔ j < i) := fun j q hq h2 hne => by
      rw [← hc2 j q hq h2]; exact bef j q hq hne (.inl (.inr ⟨h2, h0⟩))
    rcases Nat.le_total c i with hle | hle
    · exact (hs_same hst i c hle (by omega) fun k q hk h1 h2 h3 => by have := (hw k q hk h3 (by omega)).2 h2; omega).symm
    · refine hs_same hst c i hle hc1 fun k q hk h1 h2 h3 => ?_
      by_cases hki : k = i
      · subst hki
        have := (hc2 k q hk h3).2 h2
        rw [hi] at this; cases this
      · have := (hw k q hk h3 hki).1 h2; omega
  obtain ⟨env', h', h1, h2, h3, h4, h5⟩ := operV_local (env2 := env) (h2 := h) (hst i o ho) (by rw [I.len, es_len hst i (by omega)]) hlook hheap
  have dn : ∀ j, (done j || j == i) = true ↔ (done j = true ∨ j = i) := fun j => by simp
  refine ⟨env', h', h1, ⟨fun j hj => ?_, fun j k hj hk => ?_, by rw [h2, es_len hst i (by omega)], fun t ht => ?_, fun t j q hq hdj hm hmax => ?_, ?_⟩⟩
  · rcases (dn j).1 hj with hj | rfl
    · exact I.lt j hj
    · exact hil
  · rcases (dn j).1 hj with hj | rfl
    · exact (dn k).2 (.inl (I.closed j k hj hk))
    · exact (dn k).2 (.inl (hb k hk))
  · rw [((h5 t).1 (ht i o ho ((dn i).2 (.inr rfl)))).1]
    exact I.fresh t fun j q hq hdj => ht j q hq ((dn j).2 (.inl hdj))
  · rcases (dn j).1 hdj with hdj | rfl
    · have hni : t ∉ setsOf o := fun hmi => by
        have hij := hmax i o ho ((dn i).2 (.inr rfl)) hmi
        have hne : j ≠ i := fun e => by rw [e, hi] at hdj; exact Bool.noConfusion hdj
        have := (bef j q hq hne (.inl (.inl ⟨t, hm, .inl hmi⟩))).1 hdj
        omega
      rw [((h5 t).1 hni).1]
      exact I.last t j q hq hdj hm fun k r hr hdk => hmax k r hr ((dn k).2 (.inl hdk))
    · rw [ho] at hq; cases hq
      exact (h5 t).2 hm
  · by_cases h6 : touch o.op = 2
    · refine ⟨i + 1, by omega, fun j q hq hq2 => ?_, by rw [h4 h6]⟩
      rw [dn]
      by_cases hji : j = i
      · subst hji; simp
      · rw [bef j q hq hji (.inl (.inr ⟨hq2, by rw [h6]; decide⟩))]; omega
    · refine ⟨c, hc1, fun j q hq hq2 => ?_, by rw [(h3 h6).2, hc3]⟩
      rw [dn]
      have hji : j ≠ i := fun e => by subst e; rw [ho] at hq; injection hq with hq; exact h6 (by rw [hq]; exact hq2)
      simp only [hji, or_false]
      exact hc2 j q hq hq2

theorem DI.final {done : Nat → Bool} {env : VEnv} {h : VHeap} (hst : ∀ (i : Nat) (o : LOper), l[i]? = some o → operV cf lo o (es i) (hs i) = some (es (i + 1), hs (i + 1))) (I : DI l bs es hs done env h) (hall : ∀ i, i < l.length → done i = true) : env = es l.length ∧ h = hs l.length := by
  obtain ⟨c, hc1, hc2, hc3⟩ := I.heap
  constructor
  · have key : ∀ t, env.getD t .undef = (es l.length).getD t .undef := by
      intro t
      by_cases hex : ∃ j, j < l.length ∧ ∃ q, l[j]? = some q ∧ t ∈ setsOf q
      · obtain ⟨j, hjl, ⟨q, hq, hm⟩, hmax⟩ := last_of (fun j => ∃ q, l[j]? = some q ∧ t ∈ setsOf q) l.length hex
        rw [I.last t j q hq (hall j hjl) hm fun k r hr _ hmk => hmax k (lt_of_getElem? hr) ⟨r, hr, hmk⟩]
        refine (es_same hst l.length (j + 1) (by omega) (Nat.le_refl _) fun k r hr h1 h2 hmk => ?_).symm
        have := hmax k h2 ⟨r, hr, hmk⟩
        omega
      · rw [I.fresh t fun j q hq _ hm => hex ⟨j, lt_of_getElem? hq, q, hq, hm⟩]
        exact (es_same hst l.length 0 (by omega) (Nat.le_refl _) fun k r hr _ h2 hmk => hex ⟨k, h2, r, hr, hmk⟩).symm
    apply List.ext_getElem?
    intro t
    have hlen : env.length = (es l.length).length := by rw [I.len, es_len hst _ (Nat.le_refl _)]
    have := key t
    rcases Nat.lt_or_ge t env.length with ht | ht
    · rw [List.getElem?_eq_getElem ht, List.getElem?_eq_getElem (by omega)]
      rw [List.getD_eq_getElem?_getD, List.getD_eq_getElem?_getD, List.getElem?_eq_getElem ht, List.getElem?_eq_getElem (by omega)] at this
      simpa using this
    · rw [List.getElem?_eq_none ht, List.getElem?_eq_none (by omega)]
  · rw [hc3]
    exact (hs_same hst l.length c hc1 (Nat.le_refl _) fun k q hk h1 h2 h3 => by
      have := (hc2 k q hk h3).1 (hall k h2); omega).symm
end
end
end Vg
