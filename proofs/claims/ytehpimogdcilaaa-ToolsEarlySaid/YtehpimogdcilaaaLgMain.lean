/- Code, calls: what the logical machine comes to, the model comes to. -/
import Derived.Test.YtehpimogdcilaaaLgDraw3
namespace Lg
open Go Go.RowKit
set_option linter.unusedSimpArgs false
set_option linter.unusedVariables false

theorem reads_none (op : LOp) (env : Env) (h1 : op.looks = false) (h2 : op.changes = false) : readsE op env = none := by
  cases op <;> first | rfl | (simp [LOp.looks] at h1; done) | (simp [LOp.changes] at h2; done)

section
variable {P : Program} {w0 : World} {ρ : List Place} {h h' : Heap} {w : World} {a : Act} {env env' : Env} {cf : CallF} {lo : Nat}

theorem dregion_wp {id : Nat} {ops : Array Oper} {los : List LOper} {prs : List (Nat × Nat)} (hcf : CallOK P cf) (hp : ops.toList.mapM (preOper P ops) = some los) (hd : drawB (befs ops.toList []) los prs = true) (hb : backB ops.toList = true) (hm : P.follows .mixedOrders = true)
    (E : ER ρ a env) (hdef : a.defers = []) (R : Rep w0 ρ h w) (hE : dopsE cf lo prs los env h = some (env', h'))
    {Q : Exit → Act → World → Prop} (hQ : ∀ a' w' ρ', Ext ρ ρ' → ER ρ' a' env' → a'.defers = [] → Rep w0 ρ' h' w' → Q .normal a' w') : (Code.region id ops true).wp P Q a w := by
  have htr : ∃ tr, traceE cf lo los env h = some (tr, env', h') ∧ DrawOk prs tr h' := by
    unfold dopsE at hE
    split at hE
    · obtain ⟨tr, htr⟩ := trace_of_ops los env h env' h' hE
      exact ⟨tr, htr, fun p hp => by cases hp⟩
    · split at hE
      case h_2 => cases hE
      rename_i tr env1 h1 htr
      split at hE
      case isFalse => cases hE
      rename_i hok
      cases hE
      exact ⟨tr, htr, hok⟩
  obtain ⟨tr, htr, hok⟩ := htr
  obtain ⟨es, hs, h0, h1, h2, h3, h4, h5⟩ := trace_inv los env h tr env' h' htr
  have hex : ∀ i, ∃ v, ∀ l, los[i]? = some l → es (i + 1) = putE (es i) l.dst v ∧
      (∀ env2 : Env, (∀ t ∈ l.looksAt, env2.getD t .undef = (es i).getD t .undef) → operE cf lo l env2 (hs i) = some (putE env2 l.dst v, hs (i + 1))) ∧
      (l.op.changes = false → hs (i + 1) = hs i ∧ ∀ (env2 : Env) (h2 : Heap), (∀ t ∈ l.looksAt, env2.getD t .undef = (es i).getD t .undef) → (∀ n, readsE l.op (es i) = some n → h2[n]? = (hs i)[n]?) → operE cf lo l env2 h2 = some (putE env2 l.dst v, h2)) := by
    intro i
    cases hl : los[i]? with
    | none => exact ⟨.undef, fun l hl' => by cases hl'⟩
    | some l =>
      obtain ⟨v, hv⟩ := operE_val (h5 i l hl).1
      exact ⟨v, fun l' hl' => by cases hl'; exact hv⟩
  let lv : Nat → LV := fun i => Classical.choose (hex i)
  have hlv := fun i => Classical.choose_spec (hex i)
  refine wp_region_any hm ?_
  have hlen := (mapM_get _ _ _ hp).1
  refine draw_any (lv := lv) (tr := tr) (hs := hs) (es := es) (hend := h') (env := env) (w0 := w0) (ρ := ρ) hcf hp hd hb h0 h3 h4 h5 (fun i l hl => hlv i l hl) (fun op env a b => reads_none op env a b) hok (fun a' w' ρ' he hE' hdd hR => hQ a' w' ρ' he (by rw [← h2]; exact hE') hdd hR) ops.size _ a _ ?_ ?_
  · exact Nat.le_trans (List.length_filter_le _ _) (by simp)
  · have hnone : ∀ i, (Array.replicate ops.size false).getD i false = false := by
      intro i
      rw [Array.getD_eq_getD_getElem?]
      cases hx : (Array.replicate ops.size false)[i]? with
      | none => rfl
      | some b => have := Array.getElem?_eq_some_iff.1 hx; obtain ⟨_, hb⟩ := this; simp at hb; subst hb; rfl
    refine DI.mk ?_ (by simp) (by have := E.1; simpa using this) hdef ⟨ρ, 0, Ext.refl ρ, Nat.zero_le _, ?_, by rw [h1]; exact R.drew, fun t ht _ => E.get t, ?_⟩
    · intro i o ho hl
      rw [hnone] at hl; cases hl
    · intro i l hl hc
      rw [hnone]
      simp
    · intro i l t ht hl hls
      rw [hnone] at hls; cases hls

/-- What a piece of code ends in. -/
def exitOf : Out → Exit
  | .norm => .normal
  | .exit id => .exit id
  | .ret => .ret

def Post (w0 : World) (ρ : List Place) (out : Out) (env' : Env) (h' : Heap) : Exit → Act → World → Prop :=
  fun e a' w' => e = exitOf out ∧ a'.defers = [] ∧ ∃ ρ', Ext ρ ρ' ∧ ER ρ' a' env' ∧ Rep w0 ρ' h' w'

theorem Post.trans {ρ1 : List Place} {out : Out} (he : Ext ρ ρ1) {e : Exit} {a' : Act} {w' : World} (h : Post w0 ρ1 out env' h' e a' w') : Post w0 ρ out env' h' e a' w' := by
  obtain ⟨h1, h2, ρ', h3, h4, h5⟩ := h
  exact ⟨h1, h2, ρ', he.trans h3, h4, h5⟩

theorem keepE_er {keep : List Nat} (E : ER ρ a env) : ER ρ a (keepE keep env) := by
  refine ⟨by have := E.1; simpa [keepE] using this, fun i v l hv hl => ?_⟩
  simp only [keepE, List.getElem?_mapIdx] at hl
  cases he : env[i]? with
  | none => rw [he] at hl; cases hl
  | some u =>
    rw [he] at hl
    simp only [Option.map_some, Option.some.injEq] at hl
    subst hl
    split
    · exact E.2 i v u hv he
    · exact .undef v

theorem code_wp (hcf : CallOK P cf) (K : Nat) : ∀ (c : Code) (s : List (List Nat) × List (List (Nat × Nat))) (lc : LCode) (s' : List (List Nat) × List (List (Nat × Nat))), preCode P c s = some (lc, s') →
    ∀ (lo : Nat) (ρ : List Place) (a : Act) (env : Env) (h : Heap) (w : World) (out : Out) (env' : Env) (h' : Heap), codeE cf lo K lc env h = some (out, env', h') →
      ER ρ a env → a.defers = [] → Rep w0 ρ h w → c.wp P (Post w0 ρ out env' h') a w := by
  intro c
  induction c with
  | skip =>
    intro s lc s' hp lo ρ a env h w out env' h' hE E hd R
    simp only [preCode, Option.some.injEq, Prod.mk.injEq] at hp
    obtain ⟨rfl, _⟩ := hp
    simp only [codeE, Option.some.injEq, Prod.mk.injEq] at hE
    obtain ⟨rfl, rfl, rfl⟩ := hE
    exact wp_skip ⟨rfl, hd, ρ, Ext.refl ρ, E, R⟩
  | region id ops draw =>
    intro s lc s' hp lo ρ a env h w out env' h' hE E hd R
    obtain ⟨ks, ps⟩ := s
    simp only [preCode] at hp
    split at hp
    case h_1 => cases hp
    rename_i los hlos
    cases draw with
    | false =>
      simp only [Bool.false_eq_true, if_false, Option.some.injEq, Prod.mk.injEq] at hp
      obtain ⟨rfl, _⟩ := hp
      simp only [codeE] at hE
      split at hE
      case h_2 => cases hE
      rename_i e1 h1 hops
      cases hE
      exact region_wp hcf hlos E hd R hops fun a' w' ρ' he hE' hdd hR => ⟨rfl, hdd, ρ', he, hE', hR⟩
    | true =>
      simp only [if_true] at hp
      split at hp
      · cases hp
      rename_i p ps'
      split at hp
      case isFalse => cases hp
      rename_i hc
      simp only [Bool.and_eq_true] at hc
      cases hp
      simp only [codeE] at hE
      split at hE
      case h_2 => cases hE
      rename_i e1 h1 hops
      cases hE
      exact dregion_wp hcf hlos hc.1.1 hc.1.2 hc.2 E hd R hops fun a' w' ρ' he hE' hdd hR => ⟨rfl, hdd, ρ', he, hE', hR⟩
  | seq x y ihx ihy =>
    intro s lc s' hp lo ρ a env h w out env' h' hE E hd R
    simp only [preCode] at hp
    split at hp
    case h_2 => cases hp
    rename_i lx s1 hx
    split at hp
    case h_2 => cases hp
    rename_i ly s2 hy
    cases hp
    simp only [codeE] at hE
    split at hE
    · rename_i e1 h1 hx1
      refine wp_seq (wp_mono (ihx s lx s1 hx lo ρ a env h w .norm e1 h1 hx1 E hd R) ?_)
      rintro e a1 w1 ⟨rfl, hd1, ρ1, he1, hE1, hR1⟩
      exact wp_mono (ihy s1 ly _ hy lo ρ1 a1 e1 h1 w1 out env' h' hE hE1 hd1 hR1) fun e a2 w2 hh => hh.trans he1
    · rename_i hno
      refine wp_seq (wp_mono (ihx s lx s1 hx lo ρ a env h w out env' h' hE E hd R) ?_)
      rintro e a1 w1 hh
      obtain ⟨rfl, hrest⟩ := hh
      cases out with
      | norm => exact absurd hE (hno env' h')
      | exit id => exact ⟨rfl, hrest⟩
      | ret => exact ⟨rfl, hrest⟩
  | cond c x y ihx ihy =>
    intro s lc s' hp lo ρ a env h w out env' h' hE E hd R
    simp only [preCode] at hp
    split at hp
    case h_2 => cases hp
    rename_i c' lx s1 hc hx
    split at hp
    case h_2 => cases hp
    rename_i ly s2 hy
    cases hp
    simp only [codeE] at hE
    split at hE
    case h_2 => cases hE
    rename_i t ht
    have hv := preX_vr E hc
    rw [ht] at hv
    refine wp_cond hv.bool_inv ?_
    cases t with
    | true => exact ihx s lx s1 hx lo ρ a env h w out env' h' hE E hd R
    | false => exact ihy s1 ly _ hy lo ρ a env h w out env' h' hE E hd R
  | block id c ih =>
    intro s lc s' hp lo ρ a env h w out env' h' hE E hd R
    simp only [preCode] at hp
    split at hp
    case h_2 => cases hp
    rename_i lx s1 hx
    cases hp
    simp only [codeE] at hE
    split at hE
    · rename_i j e1 h1 hx1
      refine wp_block (wp_mono (ih s lx _ hx lo ρ a env h w _ e1 h1 hx1 E hd R) ?_)
      rintro e a1 w1 ⟨rfl, hrest⟩
      by_cases hj : j = id
      · rw [if_pos hj] at hE; cases hE
        show Exit.inBlock id _ (.exit j) a1 w1
        simp only [Exit.inBlock, hj, if_true]
        exact ⟨rfl, hrest⟩
      · rw [if_neg hj] at hE; cases hE
        show Exit.inBlock id _ (.exit j) a1 w1
        simp only [Exit.inBlock, hj, if_false]
        exact ⟨rfl, hrest⟩
    · rename_i hno
      refine wp_block (wp_mono (ih s lx _ hx lo ρ a env h w out env' h' hE E hd R) ?_)
      rintro e a1 w1 ⟨rfl, hrest⟩
      cases out with
      | norm => exact ⟨rfl, hrest⟩
      | exit j => exact absurd hE (hno j env' h')
      | ret => exact ⟨rfl, hrest⟩
  | loop c ih =>
    intro s lc s' hp lo ρ a env h w out env' h' hE E hd R
    obtain ⟨ks, ps⟩ := s
    cases ks with
    | nil => simp [preCode] at hp
    | cons keep ks =>
      simp only [preCode] at hp
      split at hp
      case h_2 => cases hp
      rename_i lx s1 hx
      cases hp
      simp only [codeE] at hE
      have key : ∀ (k : Nat) (ρ1 : List Place) (a : Act) (env : Env) (h : Heap) (w : World), iterE (fun env h => codeE cf lo K lx (keepE keep env) h) k env h = some (out, env', h') → Ext ρ ρ1 → ER ρ1 a env → a.defers = [] → Rep w0 ρ1 h w →
          (Code.loop c).wp P (Post w0 ρ out env' h') a w := by
        intro k
        induction k with
        | zero => intro ρ1 a env h w hE; simp [iterE] at hE
        | succ k ihk =>
          intro ρ1 a env h w hE he E hd R
          simp only [iterE] at hE
          refine wp_loop_unroll (fun l a w hh => by have h1 := hh.1; cases out <;> simp [exitOf] at h1) (fun a w hh => by have h1 := hh.1; cases out <;> simp [exitOf] at h1) ?_
          split at hE
          · rename_i e1 h1 hb
            refine wp_mono (ih _ lx _ hx lo ρ1 a (keepE keep env) h w .norm e1 h1 hb (keepE_er E) hd R) ?_
            rintro e a1 w1 ⟨rfl, hd1, ρ2, he2, hE2, hR2⟩
            exact ihk ρ2 a1 e1 h1 w1 hE (he.trans he2) hE2 hd1 hR2
          · rename_i hno
            refine wp_mono (ih _ lx _ hx lo ρ1 a (keepE keep env) h w out env' h' hE (keepE_er E) hd R) ?_
            rintro e a1 w1 ⟨rfl, hrest⟩
            have hfin : Post w0 ρ out env' h' (exitOf out) a1 w1 := Post.trans he ⟨rfl, hrest⟩
            cases out with
            | norm => exact absurd hE (hno env' h')
            | exit j => exact hfin
            | ret => exact hfin
      exact key K ρ a env h w hE (Ext.refl ρ) E hd R
  | exit id =>
    intro s lc s' hp lo ρ a env h w out env' h' hE E hd R
    simp only [preCode, Option.some.injEq, Prod.mk.injEq] at hp
    obtain ⟨rfl, _⟩ := hp
    simp only [codeE, Option.some.injEq, Prod.mk.injEq] at hE
    obtain ⟨rfl, rfl, rfl⟩ := hE
    exact wp_exit ⟨rfl, hd, ρ, Ext.refl ρ, E, R⟩
  | ret =>
    intro s lc s' hp lo ρ a env h w out env' h' hE E hd R
    simp only [preCode, Option.some.injEq, Prod.mk.injEq] at hp
    obtain ⟨rfl, _⟩ := hp
    simp only [codeE, Option.some.injEq, Prod.mk.injEq] at hE
    obtain ⟨rfl, rfl, rfl⟩ := hE
    exact wp_ret ⟨rfl, hd, ρ, Ext.refl ρ, E, R⟩
  | _ => intro s lc s' hp; simp [preCode] at hp
end
end Lg
