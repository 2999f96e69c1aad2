/- Regions of open order: in whatever order the model takes them. -/
import Derived.Test.YtpoofafddbcnpaaVLgDraw
namespace Lg
open Go Go.RowKit
set_option linter.unusedSimpArgs false
set_option linter.unusedVariables false

theorem filter_less {p q : Nat → Bool} : ∀ (l : List Nat),(∀ i ∈ l,p i = true → q i = true) → (∃ i ∈ l,q i = true ∧ p i = false) → (l.filter p).length < (l.filter q).length
  | [],_,h => by obtain ⟨i,hi,_⟩ := h; cases hi
  | x :: l,h1,h2 => by
    have le : ∀ (l : List Nat),(∀ i ∈ l,p i = true → q i = true) → (l.filter p).length ≤ (l.filter q).length := by
      intro l
      induction l with
      | nil => intro _; simp
      | cons y l ih =>
        intro h
        have := ih fun i hi => h i (by simp [hi])
        have hy := h y (by simp)
        simp only [List.filter_cons]
        cases hp : p y <;> cases hq : q y <;> simp_all <;> omega
    have h1' : ∀ i ∈ l,p i = true → q i = true := fun i hi => h1 i (by simp [hi])
    simp only [List.filter_cons]
    by_cases hx : q x = true ∧ p x = false
    · have := le l h1'
      simp [hx.1,hx.2]; omega
    · have : ∃ i ∈ l,q i = true ∧ p i = false := by
        obtain ⟨i,hi,hqp⟩ := h2
        rcases List.mem_cons.1 hi with rfl | hi
        · exact absurd hqp hx
        · exact ⟨i,hi,hqp⟩
      have ih := filter_less l h1' this
      have hy := h1 x (by simp)
      cases hp : p x <;> cases hq : q x <;> simp_all <;> omega

/-- How many are left. -/
def left (n : Nat) (listed : Array Bool) : Nat := ((List.range n).filter fun i => !listed.getD i true).length

theorem getD_set {listed : Array Bool} {i j : Nat} {d : Bool} (hi : i < listed.size) : (listed.setIfInBounds i true).getD j d = if j = i then true else listed.getD j d := by
  rw [Array.getD_eq_getD_getElem?,Array.getD_eq_getD_getElem?,Array.getElem?_setIfInBounds]
  by_cases h : i = j
  · subst h; simp [hi]
  · simp [h,Ne.symm h]

theorem left_set {n i : Nat} {listed : Array Bool} (hs : listed.size = n) (hi : i < n) (hl : listed.getD i true = false) : left n (listed.setIfInBounds i true) < left n listed := by
  unfold left
  refine filter_less _ (fun j _ hj => ?_) ⟨i,List.mem_range.2 hi,by simp [hl],by rw [getD_set (by omega)]; simp⟩
  rw [getD_set (by omega)] at hj
  split at hj
  · simp at hj
  · exact hj


section
variable {H : Hint} {P : Program} {m : Bool} {w0 : Ini m} {ρ : List Place} {h : Heap} {w : World} {a : Act} {env : Env} {cs : CallS}

theorem closed_set {ops : Array Oper} {listed : Array Bool} {i : Nat} (hs : listed.size = ops.size) (hc : Closed ops listed) (hi : i ∈ Region.ready .any ops listed) : Closed ops (listed.setIfInBounds i true) := by
  obtain ⟨hlt,_,o,ho,he⟩ := mem_ready hi
  intro k q hq hl e heq hb
  rw [getD_set (by omega)] at hl ⊢
  split at hl
  · rename_i hk
    subst hk
    rw [ho] at hq; cases hq
    split
    · rfl
    · exact he e heq hb
  · split
    · rfl
    · exact hc k q hq hl e heq hb

theorem any_wp {ops : Array Oper} {los : List LOper} {QQ : Env → Heap → Prop} (hcf : CallOK m P cs) (hp : ops.toList.mapM (preOper P H ops) = some los) (hb : backB ops.toList = true)
    {Q : Exit → Act → World → Prop} (hQ : ∀ a' w' ρ' env' h',QQ env' h' → Ext ρ ρ' → ER ρ' a' env' → a'.defers = [] → Rep w0 ρ' h' w' → Q .normal a' w') :
    ∀ (n fuel : Nat) (listed : Array Bool) (a : Act) (w : World) (ρ1 : List Place) (env : Env) (h : Heap) (done : Nat → Bool),n ≤ fuel → left ops.size listed ≤ n → (∀ i,i < ops.size → done i = listed.getD i false) → listed.size = ops.size → Closed ops listed → Ext ρ ρ1 → ER ρ1 a env → a.defers = [] → Rep w0 ρ1 h w →
      dopsS cs (befs ops.toList []) los QQ n done env h → wpAny P .any ops Q fuel listed a w := by
  obtain ⟨hlen,hget⟩ := mapM_get _ _ _ hp
  have hlen' : ops.size = los.length := by simpa using hlen
  have fin : ∀ (listed : Array Bool) (a : Act) (w : World) (ρ1 : List Place) (env : Env) (h : Heap) (done : Nat → Bool),(∀ i,i < ops.size → done i = listed.getD i false) → listed.size = ops.size → Ext ρ ρ1 → ER ρ1 a env → a.defers = [] → Rep w0 ρ1 h w → ((∀ i,i < los.length → done i = true) → QQ env h) → (∀ i,i < ops.size → listed.getD i true = true) → Q .normal a w := by
    intro listed a w ρ1 env h done hd hs he E hdd R hq hall
    refine hQ a w ρ1 env h (hq fun i hi => ?_) he E hdd R
    rw [hd i (by omega)]
    have := hall i (by omega)
    rw [Array.getD_eq_getD_getElem?,Array.getElem?_eq_getElem (by omega)] at this ⊢
    simpa using this
  intro n
  induction n with
  | zero =>
    intro fuel listed a w ρ1 env h done hf hl hd hs hc he E hdd R hS
    have hall : ∀ i,i < ops.size → listed.getD i true = true := by
      intro i hi
      have h0 : left ops.size listed = 0 := by omega
      unfold left at h0
      rw [List.length_eq_zero_iff,List.filter_eq_nil_iff] at h0
      have := h0 i (List.mem_range.2 hi)
      simpa using this
    have hr : Region.ready .any ops listed = [] := by
      cases hx : Region.ready .any ops listed with
      | nil => rfl
      | cons i r =>
        have hm : i ∈ Region.ready .any ops listed := by rw [hx]; simp
        obtain ⟨h1,h2,_⟩ := mem_ready hm
        rw [hall i h1] at h2; cases h2
    have hq := fin listed a w ρ1 env h done hd hs he E hdd R hS hall
    cases fuel with
    | zero => exact ⟨hr,hq⟩
    | succ fuel => exact ⟨fun _ => hq,fun i hi => by rw [hr] at hi; cases hi⟩
  | succ n ih =>
    intro fuel listed a w ρ1 env h done hf hl hd hs hc he E hdd R hS
    obtain ⟨hS0,hS1⟩ := hS
    cases fuel with
    | zero => omega
    | succ fuel =>
      refine ⟨fun hr => fin listed a w ρ1 env h done hd hs he E hdd R hS0 (ready_left hb hs hr),fun i hi => ?_⟩
      obtain ⟨hlt,hli,o,ho,hed⟩ := mem_ready hi
      have hli' : listed.getD i false = false := by
        rw [Array.getD_eq_getD_getElem?,Array.getElem?_eq_getElem (by omega)] at hli ⊢
        simpa using hli
      obtain ⟨l,hl'⟩ : ∃ l,los[i]? = some l := ⟨_,List.getElem?_eq_getElem (by omega)⟩
      have hc' := closed_set hs hc hi
      have hbef : ∀ j,((befs ops.toList []).getD i 0).testBit j = true → done j = true := by
        intro j hj
        have hlt2 := befs_lt hb i j hj
        have h1 := closed_bef hb hc' i j (by rw [getD_set (by omega)]; simp) hj
        rw [getD_set (by omega)] at h1
        rw [hd j (by omega)]
        rw [if_neg (by omega)] at h1
        exact h1
      have hop := hS1 i l hl' (by rw [hd i hlt]; exact hli') hbef
      have hpo := hget i o l (by simpa using ho) hl'
      have step := oper_wp (next := wpAny P .any ops Q fuel (listed.setIfInBounds i true)) (Q := Q) hpo hcf E R hop fun v lv h1 w' ρ' hq he' hR hv =>
        ih fuel (listed.setIfInBounds i true) (a.put o.dst v) w' ρ' _ h1 _ (by omega) (by have := left_set hs hlt hli; omega) (fun j hj => by
          rw [getD_set (by omega),hd j hj]
          by_cases hji : j = i
          · subst hji; simp
          · simp [hji]) (by simp [hs]) hc' (he.trans he') ((E.mono he').put hv o.dst) (by cases hdst : o.dst <;> simp [Act.put,hdd]) hR hq
      simp only [wpOp,ho]
      by_cases hw : Region.wanted o (yielded ops a.tmps) = true
      · rw [if_pos hw] at step ⊢; exact .inl step
      · rw [if_neg hw] at step ⊢; exact step

theorem dregion_wp {id : Nat} {ops : Array Oper} {los : List LOper} {QQ : Env → Heap → Prop} (hcf : CallOK m P cs) (hp : ops.toList.mapM (preOper P H ops) = some los) (hb : backB ops.toList = true) (hm : P.follows .mixedOrders = true)
    (E : ER ρ a env) (hd : a.defers = []) (R : Rep w0 ρ h w) (hE : dopsS cs (befs ops.toList []) los QQ los.length (fun _ => false) env h)
    {Q : Exit → Act → World → Prop} (hQ : ∀ a' w' ρ' env' h',QQ env' h' → Ext ρ ρ' → ER ρ' a' env' → a'.defers = [] → Rep w0 ρ' h' w' → Q .normal a' w') : (Code.region id ops true).wp P Q a w := by
  refine wp_region_any hm ?_
  obtain ⟨hlen,_⟩ := mapM_get _ _ _ hp
  have hlen' : ops.size = los.length := by simpa using hlen
  have hnone : ∀ i,(Array.replicate ops.size false).getD i false = false := by
    intro i
    rw [Array.getD_eq_getD_getElem?]
    cases hx : (Array.replicate ops.size false)[i]? with
    | none => rfl
    | some b => have := Array.getElem?_eq_some_iff.1 hx; obtain ⟨_,hb⟩ := this; simp at hb; subst hb; rfl
  refine any_wp hcf hp hb hQ los.length ops.size _ a _ ρ env h _ (by omega) ?_ (fun i hi => by rw [hnone]) (by simp) (fun i o ho hl => by rw [hnone] at hl; cases hl) (Ext.refl ρ) E hd R.drew hE
  exact Nat.le_trans (List.length_filter_le _ _) (by simp [hlen'])
end
end Lg
