/- Regions of open order: every order comes to what the listed one does. -/
import Derived.Test.YtpoofafddbcnpaaVVgDraw
namespace Vg
open Go Lg
set_option linter.unusedSimpArgs false
set_option linter.unusedVariables false
set_option maxHeartbeats 1000000
section
variable {cf : VCall} {lo : Nat}

theorem putV_len {env : VEnv} {d : Option Nat} {v : VV} : (putV env d v).length = env.length := by cases d <;> simp [putV]
theorem strip_len {env : VEnv} {op : LOp} : (strip op env).length = env.length := by unfold strip; split <;> simp
theorem mvF_len {env e : VEnv} {h : VHeap} {a x : X} : (mvF env h a x e).length = e.length := by
  unfold mvF; split
  · split
    · split <;> simp
    · rfl
  · rfl
theorem post_len {env : VEnv} {h : VHeap} {op : LOp} : (post op env h).length = env.length := by
  cases op <;> first | (rw [post_eq rfl]; exact strip_len) | (simp only [post]; rw [mvF_len,strip_len])
theorem putV_get {env : VEnv} {d : Option Nat} {v : VV} {t : Nat} : (putV env d v).getD t .undef = if d = some t ∧ t < env.length then v else env.getD t .undef := by
  cases d with
  | none => simp [putV]
  | some d =>
    simp only [putV,List.getD_eq_getElem?_getD,List.getElem?_set]
    by_cases h : d = t
    · subst h
      by_cases h2 : d < env.length
      · simp [h2]
      · simp [h2]
    · simp [h]
theorem strip_get {env : VEnv} {op : LOp} {t : Nat} : (strip op env).getD t .undef = if loses op = some t then (env.getD t .undef).sh else env.getD t .undef := by
  unfold strip
  cases hl : loses op with
  | none => simp
  | some n =>
    simp only [List.getD_eq_getElem?_getD,List.getElem?_set]
    by_cases h : n = t
    · subst h
      by_cases h2 : n < env.length
      · simp [h2]
      · simp [h2,List.getElem?_eq_none (Nat.le_of_not_lt h2),VV.sh]
    · simp [h]

theorem mvF_get {env e : VEnv} {h : VHeap} {a x : X} {t : Nat} (hn : ∀ k,a = .t k → k ≠ t) : (mvF env h a x e).getD t .undef = e.getD t .undef := by
  unfold mvF
  split
  · rename_i k
    split
    · split
      · rfl
      · simp only [List.getD_eq_getElem?_getD,List.getElem?_set]
        rw [if_neg (hn k rfl)]
    · rfl
  · rfl
theorem post_out {env : VEnv} {h : VHeap} {op : LOp} {t : Nat} (h1 : loses op ≠ some t) (h2 : mvS op ≠ some t) : (post op env h).getD t .undef = env.getD t .undef := by
  have hs : (strip op env).getD t .undef = env.getD t .undef := by rw [strip_get,if_neg h1]
  cases op <;> first | (rw [post_eq rfl]; exact hs) | skip
  rename_i n a x
  simp only [post]
  rw [mvF_get fun k hk => by subst hk; intro e; exact h2 (by simp only [mvS]; rw [e])]
  exact hs
theorem post_in {env env2 : VEnv} {h h2 : VHeap} {op : LOp} {t : Nat} (hop : ∀ n ∈ tmpsOf op.xs,env2.getD n .undef = env.getD n .undef) (hl : env2.length = env.length) (hh : isStore op = true → h2 = h) (hm : loses op = some t ∨ mvS op = some t) (hls : ∀ n,loses op = some n → env2.getD n .undef = env.getD n .undef) :
    (post op env2 h2).getD t .undef = (post op env h).getD t .undef := by
  by_cases hst : isStore op = true
  · have e := hh hst
    subst e
    cases op <;> simp only [isStore] at hst <;> first | (cases hst; done) | skip
    rename_i n a x
    simp only [post]
    have hx : vr env2 x = vr env x := vr_cong fun k e => hop k (mem_tmpsOf (by subst e; simp [LOp.xs]))
    have hst : ∀ u,(loses (.store n a x) = some u ∨ env2.getD u .undef = env.getD u .undef) → (strip (.store n a x) env2).getD u .undef = (strip (.store n a x) env).getD u .undef := by
      intro u hu
      rw [strip_get,strip_get]
      split
      · rename_i hq; rw [hls u hq]
      · rename_i hq; exact hu.resolve_left hq
    cases a with
    | c c =>
      simp only [mvF]
      exact hst t (.inl (hm.resolve_right (by simp [mvS])))
    | t k =>
      have hk : env2.getD k .undef = env.getD k .undef := hop k (mem_tmpsOf (by simp [LOp.xs]))
      have ht : loses (.store n (.t k) x) = some t ∨ env2.getD t .undef = env.getD t .undef := by
        rcases hm with hm | hm
        · exact .inl hm
        · simp only [mvS,Option.some.injEq] at hm; subst hm; exact .inr hk
      simp only [mvF]
      rw [hk,hx]
      split
      · split
        · exact hst t ht
        · simp only [List.getD_eq_getElem?_getD,List.getElem?_set,strip_len,hl]
          split
          · rfl
          · have := hst t ht
            simpa only [List.getD_eq_getElem?_getD] using this
      · exact hst t ht
  · have hst' : isStore op = false := by cases h : isStore op <;> simp_all
    rw [post_eq hst',post_eq hst',strip_get,strip_get]
    have hmn : mvS op ≠ some t := by cases op <;> first | (simp [mvS]; done) | (simp [isStore] at hst')
    have hl2 := hm.resolve_right hmn
    rw [if_pos hl2,if_pos hl2,hls t hl2]

theorem mem_sets {o : LOper} {t : Nat} (hm : t ∈ setsOf o) (hd : ¬ o.dst = some t) : loses o.op = some t ∨ mvS o.op = some t := by
  unfold setsOf at hm
  rcases List.mem_append.1 hm with h | h
  · rcases List.mem_append.1 h with h | h
    · cases hdd : o.dst with
      | none => rw [hdd] at h; simp at h
      | some d => rw [hdd] at h; simp at h; subst h; exact absurd hdd hd
    · cases hll : loses o.op with
      | none => rw [hll] at h; simp at h
      | some d => rw [hll] at h; simp at h; subst h; exact .inl rfl
  · cases hll : mvS o.op with
    | none => rw [hll] at h; simp at h
    | some d => rw [hll] at h; simp at h; subst h; exact .inr rfl

/-- An operation looks at its own temporaries alone. -/
theorem operV_local {o : LOper} {env env' env2 : VEnv} {h h' h2 : VHeap} (hE : operV cf lo o env h = some (env',h')) (hl : env2.length = env.length) (hc : ∀ t ∈ o.looksAt,env2.getD t .undef = env.getD t .undef) (hh : touch o.op ≠ 0 → h2 = h ∨ touch o.op = 1 ∧ ∀ v h',opV cf lo o.op env h = some (v,h') → opV cf lo o.op env h2 = some (v,h2)) :
    ∃ env2' h2',operV cf lo o env2 h2 = some (env2',h2') ∧ env2'.length = env.length ∧ (touch o.op ≠ 2 → h' = h ∧ h2' = h2) ∧ (touch o.op = 2 → h2' = h') ∧
      ∀ t,(t ∉ setsOf o → env2'.getD t .undef = env2.getD t .undef ∧ env'.getD t .undef = env.getD t .undef) ∧ (t ∈ setsOf o → env2'.getD t .undef = env'.getD t .undef) := by
  have hop : ∀ n ∈ tmpsOf o.op.xs,env2.getD n .undef = env.getD n .undef := fun n hn => hc n (by
    unfold LOper.looksAt; exact List.mem_append_left _ hn)
  have hls : ∀ n,loses o.op = some n → env2.getD n .undef = env.getD n .undef := fun n hn => hop n (by
    refine mem_tmpsOf ?_
    cases ho : o.op <;> rw [ho] at hn <;> simp only [loses] at hn <;> first | (cases hn; done) | skip
    · rename_i m x; cases m <;> cases x <;> simp at hn; subst hn; simp [LOp.xs]
    · rename_i a b c; cases c <;> simp at hn; subst hn; simp [LOp.xs]
    · rename_i a b c x y; cases x <;> simp at hn; subst hn; simp [LOp.xs])
  have one : ∀ {env' h'},(match opV cf lo o.op env h with
      | some (v,h') => some (putV (post o.op env h) o.dst v,h')
      | none => none) = some (env',h') → ∃ env2' h2',(match opV cf lo o.op env2 h2 with
      | some (v,h') => some (putV (post o.op env2 h2) o.dst v,h')
      | none => none) = some (env2',h2') ∧ env2'.length = env.length ∧ (touch o.op ≠ 2 → h' = h ∧ h2' = h2) ∧ (touch o.op = 2 → h2' = h') ∧
      ∀ t,(t ∉ setsOf o → env2'.getD t .undef = env2.getD t .undef ∧ env'.getD t .undef = env.getD t .undef) ∧ (t ∈ setsOf o → env2'.getD t .undef = env'.getD t .undef) := by
    intro env' h' h1
    split at h1
    case h_2 => cases h1
    rename_i v h3 hv
    simp only [Option.some.injEq,Prod.mk.injEq] at h1
    obtain ⟨rfl,rfl⟩ := h1
    have key : ∃ h4,opV cf lo o.op env2 h2 = some (v,h4) ∧ (touch o.op ≠ 2 → h3 = h ∧ h4 = h2) ∧ (touch o.op = 2 → h4 = h3) := by
      by_cases h0 : touch o.op = 0
      · have := touch0 h0 hv h2
        refine ⟨h2,by rw [opV_cong hop]; exact this,fun _ => ⟨touch1 (by rw [h0]; decide) hv,rfl⟩,fun h => by rw [h0] at h; cases h⟩
      · rcases hh h0 with e | ⟨e1,e2⟩
        · subst e
          exact ⟨h3,by rw [opV_cong hop]; exact hv,fun h => ⟨touch1 h hv,touch1 h hv⟩,fun _ => rfl⟩
        · exact ⟨h2,by rw [opV_cong hop]; exact e2 _ _ hv,fun h => ⟨touch1 h hv,rfl⟩,fun h => by rw [e1] at h; cases h⟩
    obtain ⟨h4,h5,h6,h7⟩ := key
    refine ⟨_,h4,by rw [h5],by rw [putV_len,post_len,hl],h6,h7,fun t => ⟨fun hn => ?_,fun hm => ?_⟩⟩
    · have h1 : o.dst ≠ some t := fun e => hn (by unfold setsOf; rw [e]; simp)
      have h2 : loses o.op ≠ some t := fun e => hn (by unfold setsOf; rw [e]; simp)
      have h3 : mvS o.op ≠ some t := fun e => hn (by unfold setsOf; rw [e]; simp)
      simp only [putV_get,h1,false_and,if_false,post_out h2 h3]
      exact ⟨trivial,trivial⟩
    · simp only [putV_get,post_len,hl]
      by_cases hd : o.dst = some t
      · by_cases hlt : t < env.length
        · simp [hd,hlt]
        · simp only [hd,true_and,hlt,if_false]
          have e1 : (post o.op env2 h2).getD t .undef = .undef := by rw [List.getD_eq_getElem?_getD,List.getElem?_eq_none (by rw [post_len]; omega)]; rfl
          have e2 : (post o.op env h).getD t .undef = .undef := by rw [List.getD_eq_getElem?_getD,List.getElem?_eq_none (by rw [post_len]; omega)]; rfl
          rw [e1,e2]
      · have hlm := mem_sets hm hd
        simp only [hd,false_and,if_false]
        exact post_in hop hl (fun hs => by
          have ht : touch o.op = 2 := by cases ho : o.op <;> rw [ho] at hs <;> first | rfl | cases hs
          rcases hh (by rw [ht]; decide) with e | ⟨e1,_⟩
          · exact e
          · rw [ht] at e1; cases e1) hlm hls
  have skip : ∀ {env' h'},some (putV env o.dst (.tup []),h) = some (env',h') → ∃ env2' h2',some (putV env2 o.dst (.tup []),h2) = some (env2',h2') ∧ env2'.length = env.length ∧ (touch o.op ≠ 2 → h' = h ∧ h2' = h2) ∧ (touch o.op = 2 → h2' = h') ∧
      ∀ t,(t ∉ setsOf o → env2'.getD t .undef = env2.getD t .undef ∧ env'.getD t .undef = env.getD t .undef) ∧ (t ∈ setsOf o → env2'.getD t .undef = env'.getD t .undef) := by
    intro env' h' h1
    simp only [Option.some.injEq,Prod.mk.injEq] at h1
    obtain ⟨rfl,rfl⟩ := h1
    refine ⟨_,h2,rfl,by rw [putV_len,hl],fun _ => ⟨rfl,rfl⟩,fun h => (by
      rcases hh (by rw [h]; decide) with e | ⟨e1,_⟩
      · exact e
      · rw [h] at e1; cases e1),fun t => ⟨fun hn => ?_,fun hm => ?_⟩⟩
    · have h1 : o.dst ≠ some t := fun e => hn (by unfold setsOf; rw [e]; simp)
      simp only [putV_get,h1,false_and,if_false]
      exact ⟨trivial,trivial⟩
    · simp only [putV_get,hl]
      by_cases hd : o.dst = some t
      · by_cases hlt : t < env.length
        · simp [hd,hlt]
        · simp only [hd,true_and,hlt,if_false]
          have e1 : env2.getD t .undef = .undef := by rw [List.getD_eq_getElem?_getD,List.getElem?_eq_none (by omega)]; rfl
          have e2 : env.getD t .undef = .undef := by rw [List.getD_eq_getElem?_getD,List.getElem?_eq_none (by omega)]; rfl
          rw [e1,e2]
      · have hlm := mem_sets hm hd
        have : env2.getD t .undef = env.getD t .undef := by
          rcases hlm with h | h
          · exact hls t h
          · refine hop t (mem_tmpsOf ?_)
            cases ho : o.op <;> rw [ho] at h <;> simp only [mvS] at h <;> first | (cases h; done) | skip
            rename_i n a x
            cases a <;> simp at h
            subst h; simp [LOp.xs]
        simp only [hd,false_and,if_false,this]
  unfold operV at hE ⊢
  cases hg : o.guard with
  | none => rw [hg] at hE; exact one hE
  | some g =>
    obtain ⟨g,want⟩ := g
    rw [hg] at hE
    simp only at hE ⊢
    have hge : env2.getD g .undef = env.getD g .undef := hc g (by unfold LOper.looksAt; rw [hg]; simp)
    rw [hge]
    split at hE
    · rename_i b hb
      (try rw [hb])
      (try simp only)
      split at hE
      · rename_i hw; rw [if_pos hw]; exact one hE
      · rename_i hw; rw [if_neg hw]; exact skip hE
    · rename_i vs hb
      (try rw [hb])
      exact skip hE
    · cases hE

/-- The states of the listed order. -/
theorem opsV_states : ∀ (l : List LOper) (env : VEnv) (h : VHeap) (env' : VEnv) (h' : VHeap),opsV cf lo l env h = some (env',h') → ∃ (es : Nat → VEnv) (hs : Nat → VHeap),es 0 = env ∧ hs 0 = h ∧ es l.length = env' ∧ hs l.length = h' ∧
    ∀ (i : Nat) (o : LOper),l[i]? = some o → operV cf lo o (es i) (hs i) = some (es (i + 1),hs (i + 1))
  | [],env,h,env',h',hE => by
    simp only [opsV,Option.some.injEq,Prod.mk.injEq] at hE
    obtain ⟨rfl,rfl⟩ := hE
    exact ⟨fun _ => env,fun _ => h,rfl,rfl,rfl,rfl,fun i o hi => by simp at hi⟩
  | o :: l,env,h,env',h',hE => by
    simp only [opsV] at hE
    split at hE
    case h_2 => cases hE
    rename_i env1 h1 ho
    obtain ⟨es,hs,e0,e1,e2,e3,e4⟩ := opsV_states l env1 h1 env' h' hE
    refine ⟨fun i => match i with | 0 => env | i + 1 => es i,fun i => match i with | 0 => h | i + 1 => hs i,rfl,rfl,e2,e3,fun i q hi => ?_⟩
    cases i with
    | zero => simp at hi; subst hi; simp only [e0,e1]; exact ho
    | succ i => exact e4 i q (by simpa using hi)

/-- Two operations that have to do with one another. -/
def Conf (p q : LOper) : Prop := (∃ t ∈ setsOf p,t ∈ setsOf q ∨ t ∈ q.looksAt) ∨ (touch p.op = 2 ∧ touch q.op ≠ 0)

theorem drawC_ord {bs : List Nat} {l : List LOper} (hd : drawC bs l = true) : (∀ i,i < l.length → ∀ k,(bs.getD i 0).testBit k = true → k < i) ∧
    ∀ (i j : Nat) (p q : LOper),l[i]? = some p → l[j]? = some q → i < j → (Conf p q ∨ Conf q p) → (bs.getD j 0).testBit i = true := by
  have h0 : ∀ i,i < l.length → ∀ k,(bs.getD i 0).testBit k = true → k < i := by
    intro i hi k hk
    have h1 := List.all_eq_true.1 hd (l[i],i) (by rw [List.mem_zipIdx_iff_getElem?]; exact List.getElem?_eq_getElem hi)
    simp only [Bool.and_eq_true,decide_eq_true_eq] at h1
    rcases Nat.lt_or_ge k i with h | h
    · exact h
    · have h2 : bs.getD i 0 < 2 ^ k := Nat.lt_of_lt_of_le h1.1 (Nat.pow_le_pow_right (by decide) h)
      rw [Nat.testBit_lt_two_pow h2] at hk; cases hk
  refine ⟨h0,fun i j p q hp hq hij hc => ?_⟩
  have key : ∀ (i j : Nat) (p q : LOper),l[i]? = some p → l[j]? = some q → i ≠ j → Conf p q → cmpB bs i j = true := by
    intro i j p q hp hq hij hc
    have h1 := List.all_eq_true.1 hd (p,i) (by rw [List.mem_zipIdx_iff_getElem?]; exact hp)
    simp only [Bool.and_eq_true] at h1
    have h2 := List.all_eq_true.1 h1.2 (q,j) (by rw [List.mem_zipIdx_iff_getElem?]; exact hq)
    simp only [Bool.or_eq_true,beq_iff_eq,hij,false_or,Bool.and_eq_true] at h2
    rcases h2 with h2 | ⟨h2,h3⟩
    · exact h2
    · exfalso
      rcases hc with ⟨t,ht,hm⟩ | ⟨ha,hb⟩
      · have := List.all_eq_true.1 h2 t ht
        simp only [Bool.not_eq_true',List.contains_eq_mem,List.mem_append,decide_eq_false_iff_not,not_or] at this
        rcases hm with hm | hm
        · exact this.1 hm
        · exact this.2 hm
      · simp only [ha,beq_self_eq_true,Bool.true_and,Bool.not_eq_true',decide_eq_false_iff_not] at h3
        omega
  have hcmp : cmpB bs i j = true := by
    rcases hc with hc | hc
    · exact key i j p q hp hq (by omega) hc
    · have := key j i q p hq hp (by omega) hc
      unfold cmpB at this ⊢
      rw [Bool.or_comm]; exact this
  unfold cmpB at hcmp
  rw [Bool.or_eq_true] at hcmp
  rcases hcmp with h | h
  · have := h0 i (lt_of_getElem? hp) j h; omega
  · exact h

/-- What the masks say. -/
abbrev befR (bs : List Nat) : Nat → Nat → Bool := fun j i => (bs.getD i 0).testBit j
/-- Enough order: what an operation looks at is what it would look at in the listed order. -/
structure Ord (cf : VCall) (lo : Nat) (R : Nat → Nat → Bool) (l : List LOper) (es : Nat → VEnv) (hs : Nat → VHeap) : Prop where
  low : ∀ i,i < l.length → ∀ k,R k i = true → k < i
  slot : ∀ (i j : Nat) (p q : LOper),l[i]? = some p → l[j]? = some q → i < j → ((∃ t ∈ setsOf p,t ∈ setsOf q ∨ t ∈ q.looksAt) ∨ ∃ t ∈ setsOf q,t ∈ setsOf p ∨ t ∈ p.looksAt) → R i j = true
  blk : ∀ (i j : Nat) (p q : LOper),l[i]? = some p → l[j]? = some q → i < j → ((touch p.op = 2 ∧ touch q.op ≠ 0 ∧ isLd q.op = false) ∨ (touch q.op = 2 ∧ touch p.op ≠ 0 ∧ isLd p.op = false)) → R i j = true
  ld : ∀ (i : Nat) (o : LOper),l[i]? = some o → isLd o.op = true → (∀ (j : Nat) (q : LOper),l[j]? = some q → touch q.op = 2 → (i < j → R i j = true) ∧ (j < i → R j i = true)) ∨
    ∀ c,c ≤ l.length → ∀ v h',opV cf lo o.op (es i) (hs i) = some (v,h') → opV cf lo o.op (es i) (hs c) = some (v,hs c)
theorem isLd_touch {op : LOp} (h : isLd op = true) : touch op = 1 := by
  cases op <;> simp only [isLd] at h <;> first | (cases h; done) | skip
  rename_i m g n x
  cases m
  · rfl
  · cases h
theorem drawC_Ord {bs : List Nat} {l : List LOper} {es : Nat → VEnv} {hs : Nat → VHeap} (hd : drawC bs l = true) : Ord cf lo (befR bs) l es hs := by
  obtain ⟨h0,h1⟩ := drawC_ord hd
  refine ⟨h0,fun i j p q hp hq hij hc => h1 i j p q hp hq hij (hc.imp (fun h => .inl h) (fun h => .inl h)),fun i j p q hp hq hij hc => h1 i j p q hp hq hij (hc.imp (fun h => .inr ⟨h.1,h.2.1⟩) (fun h => .inr ⟨h.1,h.2.1⟩)),fun i o ho hl => .inl fun j q hq h2 => ?_⟩
  have ht := isLd_touch hl
  exact ⟨fun hij => h1 i j o q ho hq hij (.inr (.inr ⟨h2,by rw [ht]; decide⟩)),fun hij => h1 j i q o hq ho hij (.inl (.inr ⟨h2,by rw [ht]; decide⟩))⟩

/-- What holds when some operations are done. -/
structure DI (l : List LOper) (R : Nat → Nat → Bool) (es : Nat → VEnv) (hs : Nat → VHeap) (done : Nat → Bool) (env : VEnv) (h : VHeap) : Prop where
  lt : ∀ i,done i = true → i < l.length
  closed : ∀ i j,done i = true → R j i = true → done j = true
  len : env.length = (es 0).length
  fresh : ∀ t,(∀ j o,l[j]? = some o → done j = true → t ∉ setsOf o) → env.getD t .undef = (es 0).getD t .undef
  last : ∀ t j o,l[j]? = some o → done j = true → t ∈ setsOf o → (∀ k q,l[k]? = some q → done k = true → t ∈ setsOf q → k ≤ j) → env.getD t .undef = (es (j + 1)).getD t .undef
  heap : ∃ c,c ≤ l.length ∧ (∀ i o,l[i]? = some o → touch o.op = 2 → (done i = true ↔ i < c)) ∧ h = hs c

section
variable {l : List LOper} {R : Nat → Nat → Bool} {es : Nat → VEnv} {hs : Nat → VHeap}

theorem es_len (hst : ∀ (i : Nat) (o : LOper),l[i]? = some o → operV cf lo o (es i) (hs i) = some (es (i + 1),hs (i + 1))) : ∀ i,i ≤ l.length → (es i).length = (es 0).length
  | 0,_ => rfl
  | i + 1,hi => by
    obtain ⟨o,ho⟩ : ∃ o,l[i]? = some o := ⟨_,List.getElem?_eq_getElem (by omega)⟩
    obtain ⟨e2,h2,h3,h4,_⟩ := operV_local (hst i o ho) rfl (fun _ _ => rfl) (fun _ => .inl rfl)
    rw [hst i o ho] at h3
    cases h3
    rw [h4,es_len hst i (by omega)]
/-- Between,where nobody touches a slot. -/
theorem es_same (hst : ∀ (i : Nat) (o : LOper),l[i]? = some o → operV cf lo o (es i) (hs i) = some (es (i + 1),hs (i + 1))) {t : Nat} : ∀ (b a : Nat),a ≤ b → b ≤ l.length → (∀ k q,l[k]? = some q → a ≤ k → k < b → t ∉ setsOf q) → (es b).getD t .undef = (es a).getD t .undef := by
  intro b
  induction b with
  | zero => intro a ha _ _; have : a = 0 := by omega
            subst this; rfl
  | succ b ih =>
    intro a ha hb hn
    by_cases he : a = b + 1
    · subst he; rfl
    · obtain ⟨o,ho⟩ : ∃ o,l[b]? = some o := ⟨_,List.getElem?_eq_getElem (by omega)⟩
      obtain ⟨e2,h2,h3,_,_,_,h7⟩ := operV_local (hst b o ho) rfl (fun _ _ => rfl) (fun _ => .inl rfl)
      rw [((h7 t).1 (hn b o ho (by omega) (by omega))).2]
      exact ih a (by omega) (by omega) fun k q hk h1 h2 => hn k q hk h1 (by omega)
theorem hs_same (hst : ∀ (i : Nat) (o : LOper),l[i]? = some o → operV cf lo o (es i) (hs i) = some (es (i + 1),hs (i + 1))) : ∀ (b a : Nat),a ≤ b → b ≤ l.length → (∀ k q,l[k]? = some q → a ≤ k → k < b → touch q.op ≠ 2) → hs b = hs a := by
  intro b
  induction b with
  | zero => intro a ha _ _; have : a = 0 := by omega
            subst this; rfl
  | succ b ih =>
    intro a ha hb hn
    by_cases he : a = b + 1
    · subst he; rfl
    · obtain ⟨o,ho⟩ : ∃ o,l[b]? = some o := ⟨_,List.getElem?_eq_getElem (by omega)⟩
      obtain ⟨e2,h2,h3,_,h5,_,_⟩ := operV_local (hst b o ho) rfl (fun _ _ => rfl) (fun _ => .inl rfl)
      rw [(h5 (hn b o ho (by omega) (by omega))).1]
      exact ih a (by omega) (by omega) fun k q hk h1 h2 => hn k q hk h1 (by omega)
/-- The last one of some numbers. -/
theorem last_of (p : Nat → Prop) : ∀ n,(∃ i,i < n ∧ p i) → ∃ i,i < n ∧ p i ∧ ∀ k,k < n → p k → k ≤ i := by
  intro n
  induction n with
  | zero => rintro ⟨i,hi,_⟩; omega
  | succ n ih =>
    intro h
    by_cases hn : p n
    · exact ⟨n,by omega,hn,fun k hk _ => by omega⟩
    · obtain ⟨i,hi,hp⟩ := h
      have hin : i ≠ n := fun e => hn (e ▸ hp)
      obtain ⟨j,h1,h2,h3⟩ := ih ⟨i,by omega,hp⟩
      exact ⟨j,by omega,h2,fun k hk hpk => h3 k (by have : k ≠ n := fun e => hn (e ▸ hpk); omega) hpk⟩

theorem DI.step {done : Nat → Bool} {env : VEnv} {h : VHeap} (hst : ∀ (i : Nat) (o : LOper),l[i]? = some o → operV cf lo o (es i) (hs i) = some (es (i + 1),hs (i + 1))) (hd : Ord cf lo R l es hs) (I : DI l R es hs done env h) {i : Nat} {o : LOper} (ho : l[i]? = some o) (hi : done i = false) (hb : ∀ j,R j i = true → done j = true) :
    ∃ env' h',operV cf lo o env h = some (env',h') ∧ DI l R es hs (fun j => done j || j == i) env' h' := by
  have hil := lt_of_getElem? ho
  -- whoever has to do with it
  have bef : ∀ j q,l[j]? = some q → j ≠ i → (∃ t ∈ setsOf q,t ∈ setsOf o ∨ t ∈ o.looksAt) → (done j = true ↔ j < i) := by
    intro j q hq hne hc
    rcases Nat.lt_or_gt_of_ne hne with hlt | hgt
    · exact ⟨fun _ => hlt,fun _ => hb j (hd.slot j i q o hq ho hlt (.inl hc))⟩
    · refine ⟨fun hdj => ?_,fun h => by omega⟩
      have := I.closed j i hdj (hd.slot i j o q ho hq hgt (.inr hc))
      rw [hi] at this; cases this
  have befB : ∀ j q,l[j]? = some q → j ≠ i → touch q.op = 2 → touch o.op ≠ 0 → isLd o.op = false → (done j = true ↔ j < i) := by
    intro j q hq hne h2 h0 hl
    rcases Nat.lt_or_gt_of_ne hne with hlt | hgt
    · exact ⟨fun _ => hlt,fun _ => hb j (hd.blk j i q o hq ho hlt (.inl ⟨h2,h0,hl⟩))⟩
    · refine ⟨fun hdj => ?_,fun h => by omega⟩
      have := I.closed j i hdj (hd.blk i j o q ho hq hgt (.inr ⟨h2,h0,hl⟩))
      rw [hi] at this; cases this
  have hlook : ∀ t ∈ o.looksAt,env.getD t .undef = (es i).getD t .undef := by
    intro t ht
    by_cases hex : ∃ j,j < i ∧ ∃ q,l[j]? = some q ∧ t ∈ setsOf q
    · obtain ⟨j,hji,⟨q,hq,hm⟩,hmax⟩ := last_of (fun j => ∃ q,l[j]? = some q ∧ t ∈ setsOf q) i hex
      have hdj := (bef j q hq (by omega) ⟨t,hm,.inr ht⟩).2 hji
      rw [I.last t j q hq hdj hm fun k r hr hdk hmk => by
        by_cases hki : k = i
        · subst hki; rw [hi] at hdk; cases hdk
        · exact hmax k ((bef k r hr hki ⟨t,hmk,.inr ht⟩).1 hdk) ⟨r,hr,hmk⟩]
      refine (es_same hst i (j + 1) (by omega) (by omega) fun k r hr h1 h2 hmk => ?_).symm
      have := hmax k h2 ⟨r,hr,hmk⟩
      omega
    · rw [I.fresh t fun j q hq hdj hm => by
        by_cases hji : j = i
        · subst hji; rw [hi] at hdj; cases hdj
        · exact hex ⟨j,(bef j q hq hji ⟨t,hm,.inr ht⟩).1 hdj,q,hq,hm⟩]
      exact (es_same hst i 0 (by omega) (by omega) fun k r hr _ h2 hmk => hex ⟨k,h2,r,hr,hmk⟩).symm
  obtain ⟨c,hc1,hc2,hc3⟩ := I.heap
  have same : (∀ j q,l[j]? = some q → touch q.op = 2 → j ≠ i → (done j = true ↔ j < i)) → h = hs i := by
    intro hbe
    rw [hc3]
    have hw : ∀ j q,l[j]? = some q → touch q.op = 2 → j ≠ i → (j < c ↔ j < i) := fun j q hq h2 hne => by
      rw [← hc2 j q hq h2]; exact hbe j q hq h2 hne
    rcases Nat.le_total c i with hle | hle
    · exact (hs_same hst i c hle (by omega) fun k q hk h1 h2 h3 => by have := (hw k q hk h3 (by omega)).2 h2; omega).symm
    · refine hs_same hst c i hle hc1 fun k q hk h1 h2 h3 => ?_
      by_cases hki : k = i
      · subst hki
        have := (hc2 k q hk h3).2 h2
        rw [hi] at this; cases this
      · have := (hw k q hk h3 hki).1 h2; omega
  have hheap : touch o.op ≠ 0 → h = hs i ∨ touch o.op = 1 ∧ ∀ v h',opV cf lo o.op (es i) (hs i) = some (v,h') → opV cf lo o.op (es i) h = some (v,h) := by
    intro h0
    cases hl : isLd o.op with
    | false => exact .inl (same fun j q hq h2 hne => befB j q hq hne h2 h0 hl)
    | true =>
      rcases hd.ld i o ho hl with h | h
      · refine .inl (same fun j q hq h2 hne => ?_)
        rcases Nat.lt_or_gt_of_ne hne with hlt | hgt
        · exact ⟨fun _ => hlt,fun _ => hb j ((h j q hq h2).2 hlt)⟩
        · refine ⟨fun hdj => ?_,fun h => by omega⟩
          have := I.closed j i hdj ((h j q hq h2).1 hgt)
          rw [hi] at this; cases this
      · exact .inr ⟨isLd_touch hl,fun v h' hv => by rw [hc3]; exact h c hc1 v h' hv⟩
  obtain ⟨env',h',h1,h2,h3,h4,h5⟩ := operV_local (env2 := env) (h2 := h) (hst i o ho) (by rw [I.len,es_len hst i (by omega)]) hlook hheap
  have dn : ∀ j,(done j || j == i) = true ↔ (done j = true ∨ j = i) := fun j => by simp
  refine ⟨env',h',h1,⟨fun j hj => ?_,fun j k hj hk => ?_,by rw [h2,es_len hst i (by omega)],fun t ht => ?_,fun t j q hq hdj hm hmax => ?_,?_⟩⟩
  · rcases (dn j).1 hj with hj | rfl
    · exact I.lt j hj
    · exact hil
  · rcases (dn j).1 hj with hj | rfl
    · exact (dn k).2 (.inl (I.closed j k hj hk))
    · exact (dn k).2 (.inl (hb k hk))
  · rw [((h5 t).1 (ht i o ho ((dn i).2 (.inr rfl)))).1]
    exact I.fresh t fun j q hq hdj => ht j q hq ((dn j).2 (.inl hdj))
  · rcases (dn j).1 hdj with hdj | rfl
    · have hni : t ∉ setsOf o := fun hmi => by
        have hij := hmax i o ho ((dn i).2 (.inr rfl)) hmi
        have hne : j ≠ i := fun e => by rw [e,hi] at hdj; exact Bool.noConfusion hdj
        have := (bef j q hq hne ⟨t,hm,.inl hmi⟩).1 hdj
        omega
      rw [((h5 t).1 hni).1]
      exact I.last t j q hq hdj hm fun k r hr hdk => hmax k r hr ((dn k).2 (.inl hdk))
    · rw [ho] at hq; cases hq
      exact (h5 t).2 hm
  · by_cases h6 : touch o.op = 2
    · refine ⟨i + 1,by omega,fun j q hq hq2 => ?_,by rw [h4 h6]⟩
      rw [dn]
      by_cases hji : j = i
      · subst hji; simp
      · have hnl : isLd o.op = false := by
          cases hl : isLd o.op with
          | false => rfl
          | true => rw [isLd_touch hl] at h6; cases h6
        rw [befB j q hq hji hq2 (by rw [h6]; decide) hnl]; omega
    · refine ⟨c,hc1,fun j q hq hq2 => ?_,by rw [(h3 h6).2,hc3]⟩
      rw [dn]
      have hji : j ≠ i := fun e => by subst e; rw [ho] at hq; injection hq with hq; exact h6 (by rw [hq]; exact hq2)
      simp only [hji,or_false]
      exact hc2 j q hq hq2

theorem DI.final {done : Nat → Bool} {env : VEnv} {h : VHeap} (hst : ∀ (i : Nat) (o : LOper),l[i]? = some o → operV cf lo o (es i) (hs i) = some (es (i + 1),hs (i + 1))) (I : DI l R es hs done env h) (hall : ∀ i,i < l.length → done i = true) : env = es l.length ∧ h = hs l.length := by
  obtain ⟨c,hc1,hc2,hc3⟩ := I.heap
  constructor
  · have key : ∀ t,env.getD t .undef = (es l.length).getD t .undef := by
      intro t
      by_cases hex : ∃ j,j < l.length ∧ ∃ q,l[j]? = some q ∧ t ∈ setsOf q
      · obtain ⟨j,hjl,⟨q,hq,hm⟩,hmax⟩ := last_of (fun j => ∃ q,l[j]? = some q ∧ t ∈ setsOf q) l.length hex
        rw [I.last t j q hq (hall j hjl) hm fun k r hr _ hmk => hmax k (lt_of_getElem? hr) ⟨r,hr,hmk⟩]
        refine (es_same hst l.length (j + 1) (by omega) (Nat.le_refl _) fun k r hr h1 h2 hmk => ?_).symm
        have := hmax k h2 ⟨r,hr,hmk⟩
        omega
      · rw [I.fresh t fun j q hq _ hm => hex ⟨j,lt_of_getElem? hq,q,hq,hm⟩]
        exact (es_same hst l.length 0 (by omega) (Nat.le_refl _) fun k r hr _ h2 hmk => hex ⟨k,h2,r,hr,hmk⟩).symm
    apply List.ext_getElem?
    intro t
    have hlen : env.length = (es l.length).length := by rw [I.len,es_len hst _ (Nat.le_refl _)]
    have := key t
    rcases Nat.lt_or_ge t env.length with ht | ht
    · rw [List.getElem?_eq_getElem ht,List.getElem?_eq_getElem (by omega)]
      rw [List.getD_eq_getElem?_getD,List.getD_eq_getElem?_getD,List.getElem?_eq_getElem ht,List.getElem?_eq_getElem (by omega)] at this
      simpa using this
    · rw [List.getElem?_eq_none ht,List.getElem?_eq_none (by omega)]
  · rw [hc3]
    exact (hs_same hst l.length c hc1 (Nat.le_refl _) fun k q hk h1 h2 h3 => by
      have := (hc2 k q hk h3).1 (hall k h2); omega).symm
/-- A load of a block that is as it was. -/
theorem load_same {op : LOp} {env : VEnv} {h h2 h' : VHeap} {v : VV} (hl : isLd op = true) (hs : ∀ n,(ldX op).bind (fun x => ptrB (vr env x)) = some n → h2[n]? = h[n]?) (hE : opV cf lo op env h = some (v,h')) : opV cf lo op env h2 = some (v,h2) := by
  cases op <;> simp only [isLd] at hl <;> first | (cases hl; done) | skip
  rename_i m g n x
  cases m
  case true => cases hl
  simp only [ldX,Option.bind_some] at hs
  simp only [opV] at hE ⊢
  cases hx : vr env x <;> rw [hx] at hE hs <;> simp only at hE ⊢ <;> first | (cases hE; done) | skip
  case ptr b off =>
    rw [hs b rfl]
    split at hE
    case h_2 => cases hE
    rename_i rw' cs hb
    (try rw [hb])
    (try simp only)
    split at hE
    · rename_i hg
      rw [if_pos hg]
      split at hE
      · rename_i hq; rw [if_pos hq]; cases hE; rfl
      · cases hE
    · rename_i hg
      rw [if_neg hg]
      split at hE
      · rename_i u hu
        (try rw [hu])
        simp only [Bool.false_eq_true,if_false] at hE ⊢
        cases hE; rfl
      · cases hE
  case cptr cs off =>
    split at hE
    · rename_i hg
      rw [if_pos hg]
      split at hE
      · rename_i hq; rw [if_pos hq]; cases hE; rfl
      · cases hE
    · rename_i hg
      rw [if_neg hg]
      split at hE
      · rename_i u hu
        (try rw [hu])
        cases hE; rfl
      · cases hE
theorem opsW_states {wl : List Nat} : ∀ (l : List LOper) (env : VEnv) (h : VHeap) (env' : VEnv) (h' : VHeap),opsW cf lo wl l env h = some (env',h') → ∃ (es : Nat → VEnv) (hs : Nat → VHeap),es 0 = env ∧ hs 0 = h ∧ es l.length = env' ∧ hs l.length = h' ∧
    (∀ (i : Nat) (o : LOper),l[i]? = some o → operV cf lo o (es i) (hs i) = some (es (i + 1),hs (i + 1)) ∧ okLd wl (es i) o.op) ∧ ∀ i,i ≤ l.length → ∀ b ∈ wl,(hs i)[b]? = h[b]?
  | [],env,h,env',h',hE => by
    simp only [opsW,Option.some.injEq,Prod.mk.injEq] at hE
    obtain ⟨rfl,rfl⟩ := hE
    exact ⟨fun _ => env,fun _ => h,rfl,rfl,rfl,rfl,fun i o hi => by simp at hi,fun _ _ _ _ => rfl⟩
  | o :: l,env,h,env',h',hE => by
    simp only [opsW] at hE
    split at hE
    case h_2 => cases hE
    rename_i env1 h1 ho
    split at hE
    case isFalse => cases hE
    rename_i hc
    obtain ⟨es,hs,e0,e1,e2,e3,e4,e5⟩ := opsW_states l env1 h1 env' h' hE
    refine ⟨fun i => match i with | 0 => env | i + 1 => es i,fun i => match i with | 0 => h | i + 1 => hs i,rfl,rfl,e2,e3,fun i q hi => ?_,fun i hi b hb => ?_⟩
    · cases i with
      | zero => simp at hi; subst hi; simp only [e0,e1]; exact ⟨ho,hc.1⟩
      | succ i => exact e4 i q (by simpa using hi)
    · cases i with
      | zero => rfl
      | succ i => rw [← hc.2 b hb]; exact e5 i (by simpa using hi) b hb
theorem drawW_Ord {bs : List Nat} {l : List LOper} {es : Nat → VEnv} {hs : Nat → VHeap} {wl : List Nat} {h : VHeap} (hd : drawW bs l = true) (hst : ∀ (i : Nat) (o : LOper),l[i]? = some o → okLd wl (es i) o.op) (hw : ∀ i,i ≤ l.length → ∀ b ∈ wl,(hs i)[b]? = h[b]?) : Ord cf lo (befR bs) l es hs := by
  have h0 : ∀ i,i < l.length → ∀ k,(bs.getD i 0).testBit k = true → k < i := by
    intro i hi k hk
    have h1 := List.all_eq_true.1 hd (l[i],i) (by rw [List.mem_zipIdx_iff_getElem?]; exact List.getElem?_eq_getElem hi)
    simp only [Bool.and_eq_true,decide_eq_true_eq] at h1
    rcases Nat.lt_or_ge k i with h | h
    · exact h
    · have h2 : bs.getD i 0 < 2 ^ k := Nat.lt_of_lt_of_le h1.1 (Nat.pow_le_pow_right (by decide) h)
      rw [Nat.testBit_lt_two_pow h2] at hk; cases hk
  have key : ∀ (i j : Nat) (p q : LOper),l[i]? = some p → l[j]? = some q → i ≠ j → ((∃ t ∈ setsOf p,t ∈ setsOf q ∨ t ∈ q.looksAt) ∨ (touch p.op = 2 ∧ touch q.op ≠ 0 ∧ isLd q.op = false)) → cmpB bs i j = true := by
    intro i j p q hp hq hij hc
    have h1 := List.all_eq_true.1 hd (p,i) (by rw [List.mem_zipIdx_iff_getElem?]; exact hp)
    simp only [Bool.and_eq_true] at h1
    have h2 := List.all_eq_true.1 h1.2 (q,j) (by rw [List.mem_zipIdx_iff_getElem?]; exact hq)
    simp only [Bool.or_eq_true,beq_iff_eq,hij,false_or,Bool.and_eq_true] at h2
    rcases h2 with h2 | ⟨h2,h3⟩
    · exact h2
    · exfalso
      rcases hc with ⟨t,ht,hm⟩ | ⟨ha,hb,hn⟩
      · have := List.all_eq_true.1 h2 t ht
        simp only [Bool.not_eq_true',List.contains_eq_mem,List.mem_append,decide_eq_false_iff_not,not_or] at this
        rcases hm with hm | hm
        · exact this.1 hm
        · exact this.2 hm
      · simp only [ha,hn,beq_self_eq_true,Bool.true_and,Bool.not_false,Bool.and_true,Bool.not_eq_true',decide_eq_false_iff_not] at h3
        omega
  have dir : ∀ (i j : Nat) (p : LOper),l[i]? = some p → i < j → cmpB bs i j = true → (bs.getD j 0).testBit i = true := by
    intro i j p hp hij hcmp
    unfold cmpB at hcmp
    rw [Bool.or_eq_true] at hcmp
    rcases hcmp with h | h
    · have := h0 i (lt_of_getElem? hp) j h; omega
    · exact h
  have comm : ∀ i j,cmpB bs i j = cmpB bs j i := fun i j => by unfold cmpB; rw [Bool.or_comm]
  refine ⟨h0,fun i j p q hp hq hij hc => ?_,fun i j p q hp hq hij hc => ?_,fun i o ho hl => .inr fun c hc v h' hv => ?_⟩
  · rcases hc with hc | hc
    · exact dir i j p hp hij (key i j p q hp hq (by omega) (.inl hc))
    · exact dir i j p hp hij (by rw [comm]; exact key j i q p hq hp (by omega) (.inl hc))
  · rcases hc with hc | hc
    · exact dir i j p hp hij (key i j p q hp hq (by omega) (.inr hc))
    · exact dir i j p hp hij (by rw [comm]; exact key j i q p hq hp (by omega) (.inr hc))
  · refine load_same hl (fun n hn => ?_) hv
    have h3 := hst i o ho
    unfold okLd at h3
    rw [hn] at h3
    rw [hw c hc n h3,hw i (Nat.le_of_lt (lt_of_getElem? ho)) n h3]
theorem chk_Ord {R : Nat → Nat → Bool} {l : List LOper} {es : Nat → VEnv} {hs : Nat → VHeap} (hd : chkR R l = true) (hlow : ∀ i,i < l.length → ∀ k,R k i = true → k < l.length) : Ord cf lo R l es hs := by
  have h0 : ∀ i,i < l.length → ∀ k,R k i = true → k < i := by
    intro i hi k hk
    have hkl := hlow i hi k hk
    have h1 := List.all_eq_true.1 hd (l[i],i) (by rw [List.mem_zipIdx_iff_getElem?]; exact List.getElem?_eq_getElem hi)
    simp only [Bool.and_eq_true] at h1
    have h2 := List.all_eq_true.1 h1.1 (l[k],k) (by rw [List.mem_zipIdx_iff_getElem?]; exact List.getElem?_eq_getElem hkl)
    simpa [hk] using h2
  have key : ∀ (i j : Nat) (p q : LOper),l[i]? = some p → l[j]? = some q → i ≠ j → Conf p q → R i j = true ∨ R j i = true := by
    intro i j p q hp hq hij hc
    have h1 := List.all_eq_true.1 hd (p,i) (by rw [List.mem_zipIdx_iff_getElem?]; exact hp)
    simp only [Bool.and_eq_true] at h1
    have h2 := List.all_eq_true.1 h1.2 (q,j) (by rw [List.mem_zipIdx_iff_getElem?]; exact hq)
    simp only [Bool.or_eq_true,beq_iff_eq,hij,false_or,Bool.and_eq_true] at h2
    rcases h2 with h2 | ⟨h2,h3⟩
    · exact h2
    · exfalso
      rcases hc with ⟨t,ht,hm⟩ | ⟨ha,hb⟩
      · have := List.all_eq_true.1 h2 t ht
        simp only [Bool.not_eq_true',List.contains_eq_mem,List.mem_append,decide_eq_false_iff_not,not_or] at this
        rcases hm with hm | hm
        · exact this.1 hm
        · exact this.2 hm
      · simp only [ha,beq_self_eq_true,Bool.true_and,Bool.not_eq_true',decide_eq_false_iff_not] at h3
        omega
  have dir : ∀ (i j : Nat) (p q : LOper),l[i]? = some p → l[j]? = some q → i < j → (Conf p q ∨ Conf q p) → R i j = true := by
    intro i j p q hp hq hij hc
    have : R i j = true ∨ R j i = true := by
      rcases hc with hc | hc
      · exact key i j p q hp hq (by omega) hc
      · exact (key j i q p hq hp (by omega) hc).symm
    rcases this with h | h
    · exact h
    · have := h0 i (lt_of_getElem? hp) j h; omega
  refine ⟨h0,fun i j p q hp hq hij hc => dir i j p q hp hq hij (hc.imp (fun h => .inl h) (fun h => .inl h)),fun i j p q hp hq hij hc => dir i j p q hp hq hij (hc.imp (fun h => .inr ⟨h.1,h.2.1⟩) (fun h => .inr ⟨h.1,h.2.1⟩)),fun i o ho hl => .inl fun j q hq h2 => ?_⟩
  have ht := isLd_touch hl
  exact ⟨fun hij => dir i j o q ho hq hij (.inr (.inr ⟨h2,by rw [ht]; decide⟩)),fun hij => dir j i q o hq ho hij (.inl (.inr ⟨h2,by rw [ht]; decide⟩))⟩
theorem chkW_Ord {R : Nat → Nat → Bool} {l : List LOper} {es : Nat → VEnv} {hs : Nat → VHeap} {wl : List Nat} {h : VHeap} (hd : chkW R l = true) (hst : ∀ (i : Nat) (o : LOper),l[i]? = some o → okLd wl (es i) o.op) (hw : ∀ i,i ≤ l.length → ∀ b ∈ wl,(hs i)[b]? = h[b]?) (hlow : ∀ i,i < l.length → ∀ k,R k i = true → k < l.length) : Ord cf lo R l es hs := by
  have h0 : ∀ i,i < l.length → ∀ k,R k i = true → k < i := by
    intro i hi k hk
    have hkl := hlow i hi k hk
    have h1 := List.all_eq_true.1 hd (l[i],i) (by rw [List.mem_zipIdx_iff_getElem?]; exact List.getElem?_eq_getElem hi)
    simp only [Bool.and_eq_true] at h1
    have h2 := List.all_eq_true.1 h1.1 (l[k],k) (by rw [List.mem_zipIdx_iff_getElem?]; exact List.getElem?_eq_getElem hkl)
    simpa [hk] using h2
  have key : ∀ (i j : Nat) (p q : LOper),l[i]? = some p → l[j]? = some q → i ≠ j → ((∃ t ∈ setsOf p,t ∈ setsOf q ∨ t ∈ q.looksAt) ∨ (touch p.op = 2 ∧ touch q.op ≠ 0 ∧ isLd q.op = false)) → R i j = true ∨ R j i = true := by
    intro i j p q hp hq hij hc
    have h1 := List.all_eq_true.1 hd (p,i) (by rw [List.mem_zipIdx_iff_getElem?]; exact hp)
    simp only [Bool.and_eq_true] at h1
    have h2 := List.all_eq_true.1 h1.2 (q,j) (by rw [List.mem_zipIdx_iff_getElem?]; exact hq)
    simp only [Bool.or_eq_true,beq_iff_eq,hij,false_or,Bool.and_eq_true] at h2
    rcases h2 with h2 | ⟨h2,h3⟩
    · exact h2
    · exfalso
      rcases hc with ⟨t,ht,hm⟩ | ⟨ha,hb,hn⟩
      · have := List.all_eq_true.1 h2 t ht
        simp only [Bool.not_eq_true',List.contains_eq_mem,List.mem_append,decide_eq_false_iff_not,not_or] at this
        rcases hm with hm | hm
        · exact this.1 hm
        · exact this.2 hm
      · simp only [ha,hn,beq_self_eq_true,Bool.true_and,Bool.not_false,Bool.and_true,Bool.not_eq_true',decide_eq_false_iff_not] at h3
        omega
  have dir : ∀ (i j : Nat) (p : LOper),l[i]? = some p → i < j → (R i j = true ∨ R j i = true) → R i j = true := by
    intro i j p hp hij this
    rcases this with h | h
    · exact h
    · have := h0 i (lt_of_getElem? hp) j h; omega
  refine ⟨h0,fun i j p q hp hq hij hc => ?_,fun i j p q hp hq hij hc => ?_,fun i o ho hl => .inr fun c hc v h' hv => ?_⟩
  · rcases hc with hc | hc
    · exact dir i j p hp hij (key i j p q hp hq (by omega) (.inl hc))
    · exact dir i j p hp hij (key j i q p hq hp (by omega) (.inl hc)).symm
  · rcases hc with hc | hc
    · exact dir i j p hp hij (key i j p q hp hq (by omega) (.inr hc))
    · exact dir i j p hp hij (key j i q p hq hp (by omega) (.inr hc)).symm
  · refine load_same hl (fun n hn => ?_) hv
    have h3 := hst i o ho
    unfold okLd at h3
    rw [hn] at h3
    rw [hw c hc n h3,hw i (Nat.le_of_lt (lt_of_getElem? ho)) n h3]
theorem toN_ofN {a b : Nat} (h : a < b) (k : Nat) : toN a b (ofN a b k) = k := by
  unfold toN ofN; split <;> (try split) <;> (try split) <;> (try split) <;> omega
theorem ofN_toN {a b : Nat} (h : a < b) (k : Nat) : ofN a b (toN a b k) = k := by
  unfold toN ofN; split <;> (try split) <;> (try split) <;> (try split) <;> omega
theorem moveTo_len {a b : Nat} {l : List LOper} (h : a < b) (hb : b < l.length) : (moveTo a b l).length = l.length := by
  unfold moveTo
  simp only [List.length_append,List.length_take,List.length_drop]
  omega
theorem moveTo_get {a b : Nat} {l : List LOper} (h : a < b) (hb : b < l.length) (i : Nat) : (moveTo a b l)[toN a b i]? = l[i]? := by
  unfold moveTo
  rcases Nat.lt_trichotomy i a with hi | rfl | hi
  · have e : toN a b i = i := by unfold toN; rw [if_neg (by omega),if_neg (by omega)]
    rw [e,List.getElem?_append_left (by rw [List.length_take]; omega),List.getElem?_take,if_pos hi]
  · have e : toN i b i = b := by unfold toN; rw [if_pos rfl]
    rw [e,List.getElem?_append_right (by rw [List.length_take]; omega),List.length_take,List.getElem?_append_right (by simp only [List.length_take,List.length_drop]; omega),
      List.getElem?_append_left (by simp only [List.length_take,List.length_drop]; omega),List.getElem?_take,if_pos (by simp only [List.length_take,List.length_drop]; omega),List.getElem?_drop]
    congr 1
    simp only [List.length_take,List.length_drop]; omega
  · by_cases hib : i ≤ b
    · have e : toN a b i = i - 1 := by unfold toN; rw [if_neg (by omega),if_pos ⟨hi,hib⟩]
      rw [e,List.getElem?_append_right (by rw [List.length_take]; omega),List.length_take,List.getElem?_append_left (by simp only [List.length_take,List.length_drop]; omega),List.getElem?_take,if_pos (by omega),List.getElem?_drop]
      congr 1
      omega
    · have e : toN a b i = i := by unfold toN; rw [if_neg (by omega),if_neg (by omega)]
      rw [e,List.getElem?_append_right (by rw [List.length_take]; omega),List.length_take,List.getElem?_append_right (by simp only [List.length_take,List.length_drop]; omega),
        List.getElem?_append_right (by simp only [List.length_take,List.length_drop]; omega),List.getElem?_drop]
      congr 1
      simp only [List.length_take,List.length_drop]; omega
theorem moveBk_len {a b : Nat} {l : List LOper} (h : a < b) (hb : b < l.length) : (moveBk a b l).length = l.length := by
  unfold moveBk
  simp only [List.length_append,List.length_take,List.length_drop]
  omega
theorem moveBk_get {a b : Nat} {l : List LOper} (h : a < b) (hb : b < l.length) (i : Nat) : (moveBk a b l)[ofN a b i]? = l[i]? := by
  unfold moveBk
  by_cases hib : i = b
  · subst hib
    have e : ofN a i i = a := by unfold ofN; rw [if_pos rfl]
    rw [e,List.getElem?_append_right (by rw [List.length_take]; omega),List.length_take,List.getElem?_append_left (by simp only [List.length_take,List.length_drop]; omega),List.getElem?_take,if_pos (by omega),List.getElem?_drop]
    congr 1
    omega
  · rcases Nat.lt_or_ge i a with hi | hi
    · have e : ofN a b i = i := by unfold ofN; rw [if_neg hib,if_neg (by omega)]
      rw [e,List.getElem?_append_left (by rw [List.length_take]; omega),List.getElem?_take,if_pos hi]
    · by_cases hlt : i < b
      · have e : ofN a b i = i + 1 := by unfold ofN; rw [if_neg hib,if_pos ⟨hi,hlt⟩]
        rw [e,List.getElem?_append_right (by rw [List.length_take]; omega),List.length_take,List.getElem?_append_right (by simp only [List.length_take,List.length_drop]; omega),
          List.getElem?_append_left (by simp only [List.length_take,List.length_drop]; omega),List.getElem?_take,if_pos (by simp only [List.length_take,List.length_drop]; omega),List.getElem?_drop]
        congr 1
        simp only [List.length_take,List.length_drop]; omega
      · have e : ofN a b i = i := by unfold ofN; rw [if_neg hib,if_neg (by omega)]
        rw [e,List.getElem?_append_right (by rw [List.length_take]; omega),List.length_take,List.getElem?_append_right (by simp only [List.length_take,List.length_drop]; omega),
          List.getElem?_append_right (by simp only [List.length_take,List.length_drop]; omega),List.getElem?_drop]
        congr 1
        simp only [List.length_take,List.length_drop]; omega
/-- What a region in either order asks for. -/
theorem drawX_Ord {bs : List Nat} {l : List LOper} {a b : Nat} (hd : drawX bs l a b = true) : a < b ∧ b < l.length ∧ (∀ es hs,Ord cf lo (edgeR (befR bs) a b) l es hs) ∧ (∀ es hs,Ord cf lo (fun j i => edgeR (befR bs) b a (ofN a b j) (ofN a b i)) (moveTo a b l) es hs) := by
  simp only [drawX,Bool.and_eq_true,decide_eq_true_eq] at hd
  obtain ⟨⟨⟨⟨hab,hbl⟩,hm⟩,hA⟩,hB⟩ := hd
  have hlow : ∀ i,i < l.length → ∀ k,(bs.getD i 0).testBit k = true → k < i := by
    intro i hi k hk
    have h1 := List.all_eq_true.1 hm (l[i],i) (by rw [List.mem_zipIdx_iff_getElem?]; exact List.getElem?_eq_getElem hi)
    simp only [decide_eq_true_eq] at h1
    rcases Nat.lt_or_ge k i with h | h
    · exact h
    · have h2 : bs.getD i 0 < 2 ^ k := Nat.lt_of_lt_of_le h1 (Nat.pow_le_pow_right (by decide) h)
      rw [Nat.testBit_lt_two_pow h2] at hk; cases hk
  refine ⟨hab,hbl,fun es hs => chk_Ord hA fun i hi k hk => ?_,fun es hs => chk_Ord hB fun i hi k hk => ?_⟩
  · simp only [edgeR,Bool.or_eq_true,Bool.and_eq_true,beq_iff_eq] at hk
    rcases hk with hk | ⟨rfl,rfl⟩
    · have := hlow i hi k hk; omega
    · omega
  · rw [moveTo_len hab hbl] at hi ⊢
    have hoi : ofN a b i < l.length := by unfold ofN; split <;> (try split) <;> omega
    simp only [edgeR,Bool.or_eq_true,Bool.and_eq_true,beq_iff_eq] at hk
    have hok : ofN a b k < l.length := by
      rcases hk with hk | ⟨h1,h2⟩
      · have := hlow _ hoi _ hk; omega
      · omega
    have := toN_ofN hab k
    have h3 : toN a b (ofN a b k) < l.length := by unfold toN; split <;> (try split) <;> omega
    omega
theorem drawY_Ord {bs : List Nat} {l : List LOper} {a b : Nat} (hd : drawY bs l a b = true) : a < b ∧ b < l.length ∧
    (∀ (es : Nat → VEnv) (hs : Nat → VHeap) (wl : List Nat) (h : VHeap),(∀ (i : Nat) (o : LOper),l[i]? = some o → okLd wl (es i) o.op) → (∀ i,i ≤ l.length → ∀ b ∈ wl,(hs i)[b]? = h[b]?) → Ord cf lo (edgeR (befR bs) a b) l es hs) ∧
    (∀ (es : Nat → VEnv) (hs : Nat → VHeap) (wl : List Nat) (h : VHeap),(∀ (i : Nat) (o : LOper),(moveTo a b l)[i]? = some o → okLd wl (es i) o.op) → (∀ i,i ≤ (moveTo a b l).length → ∀ b ∈ wl,(hs i)[b]? = h[b]?) → Ord cf lo (fun j i => edgeR (befR bs) b a (ofN a b j) (ofN a b i)) (moveTo a b l) es hs) := by
  simp only [drawY,Bool.and_eq_true,decide_eq_true_eq] at hd
  obtain ⟨⟨⟨⟨hab,hbl⟩,hm⟩,hA⟩,hB⟩ := hd
  have hlow : ∀ i,i < l.length → ∀ k,(bs.getD i 0).testBit k = true → k < i := by
    intro i hi k hk
    have h1 := List.all_eq_true.1 hm (l[i],i) (by rw [List.mem_zipIdx_iff_getElem?]; exact List.getElem?_eq_getElem hi)
    simp only [decide_eq_true_eq] at h1
    rcases Nat.lt_or_ge k i with h | h
    · exact h
    · have h2 : bs.getD i 0 < 2 ^ k := Nat.lt_of_lt_of_le h1 (Nat.pow_le_pow_right (by decide) h)
      rw [Nat.testBit_lt_two_pow h2] at hk; cases hk
  refine ⟨hab,hbl,fun es hs wl h o1 o2 => chkW_Ord hA o1 o2 fun i hi k hk => ?_,fun es hs wl h o1 o2 => chkW_Ord hB o1 o2 fun i hi k hk => ?_⟩
  · simp only [edgeR,Bool.or_eq_true,Bool.and_eq_true,beq_iff_eq] at hk
    rcases hk with hk | ⟨rfl,rfl⟩
    · have := hlow i hi k hk; omega
    · omega
  · rw [moveTo_len hab hbl] at hi ⊢
    have hoi : ofN a b i < l.length := by unfold ofN; split <;> (try split) <;> omega
    simp only [edgeR,Bool.or_eq_true,Bool.and_eq_true,beq_iff_eq] at hk
    have hok : ofN a b k < l.length := by
      rcases hk with hk | ⟨h1,h2⟩
      · have := hlow _ hoi _ hk; omega
      · omega
    have := toN_ofN hab k
    have h3 : toN a b (ofN a b k) < l.length := by unfold toN; split <;> (try split) <;> omega
    omega
theorem drawZ_Ord {bs : List Nat} {l : List LOper} {a b : Nat} (hd : drawZ bs l a b = true) : a < b ∧ b < l.length ∧
    (∀ (es : Nat → VEnv) (hs : Nat → VHeap) (wl : List Nat) (h : VHeap),(∀ (i : Nat) (o : LOper),l[i]? = some o → okLd wl (es i) o.op) → (∀ i,i ≤ l.length → ∀ b ∈ wl,(hs i)[b]? = h[b]?) → Ord cf lo (edgeR (befR bs) a b) l es hs) ∧
    (∀ (es : Nat → VEnv) (hs : Nat → VHeap) (wl : List Nat) (h : VHeap),(∀ (i : Nat) (o : LOper),(moveBk a b l)[i]? = some o → okLd wl (es i) o.op) → (∀ i,i ≤ (moveBk a b l).length → ∀ b ∈ wl,(hs i)[b]? = h[b]?) → Ord cf lo (fun j i => edgeR (befR bs) b a (toN a b j) (toN a b i)) (moveBk a b l) es hs) := by
  simp only [drawZ,Bool.and_eq_true,decide_eq_true_eq] at hd
  obtain ⟨⟨⟨⟨hab,hbl⟩,hm⟩,hA⟩,hB⟩ := hd
  have hlow : ∀ i,i < l.length → ∀ k,(bs.getD i 0).testBit k = true → k < i := by
    intro i hi k hk
    have h1 := List.all_eq_true.1 hm (l[i],i) (by rw [List.mem_zipIdx_iff_getElem?]; exact List.getElem?_eq_getElem hi)
    simp only [decide_eq_true_eq] at h1
    rcases Nat.lt_or_ge k i with h | h
    · exact h
    · have h2 : bs.getD i 0 < 2 ^ k := Nat.lt_of_lt_of_le h1 (Nat.pow_le_pow_right (by decide) h)
      rw [Nat.testBit_lt_two_pow h2] at hk; cases hk
  refine ⟨hab,hbl,fun es hs wl h o1 o2 => chkW_Ord hA o1 o2 fun i hi k hk => ?_,fun es hs wl h o1 o2 => chkW_Ord hB o1 o2 fun i hi k hk => ?_⟩
  · simp only [edgeR,Bool.or_eq_true,Bool.and_eq_true,beq_iff_eq] at hk
    rcases hk with hk | ⟨rfl,rfl⟩
    · have := hlow i hi k hk; omega
    · omega
  · rw [moveBk_len hab hbl] at hi ⊢
    have hoi : toN a b i < l.length := by unfold toN; split <;> (try split) <;> omega
    simp only [edgeR,Bool.or_eq_true,Bool.and_eq_true,beq_iff_eq] at hk
    have hok : toN a b k < l.length := by
      rcases hk with hk | ⟨h1,h2⟩
      · have := hlow _ hoi _ hk; omega
      · omega
    have := ofN_toN hab k
    have h3 : ofN a b (toN a b k) < l.length := by unfold ofN; split <;> (try split) <;> omega
    omega
end
end
end Vg
