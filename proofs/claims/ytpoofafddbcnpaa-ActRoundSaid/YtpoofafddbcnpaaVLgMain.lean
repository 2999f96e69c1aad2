/- Code: what the logical machine comes to,the model comes to. -/
import Derived.Test.YtpoofafddbcnpaaVLgDraw3
namespace Lg
open Go Go.RowKit
set_option linter.unusedSimpArgs false
set_option linter.unusedVariables false
section
variable {H : Hint} {P : Program} {m : Bool} {w0 : Ini m} {ρ : List Place} {h : Heap} {w : World} {a : Act} {env : Env} {cs : CallS}

def exitOf : Out → Exit
  | .norm => .normal
  | .exit id => .exit id
  | .ret => .ret

def Post {m : Bool} (w0 : Ini m) (ρ : List Place) (Q : Out → Env → Heap → Prop) : Exit → Act → World → Prop :=
  fun e a' w' => ∃ out env' h',e = exitOf out ∧ Q out env' h' ∧ a'.defers = [] ∧ ∃ ρ',Ext ρ ρ' ∧ ER ρ' a' env' ∧ Rep w0 ρ' h' w'

theorem Post.trans {ρ1 : List Place} {Q : Out → Env → Heap → Prop} (he : Ext ρ ρ1) {e : Exit} {a' : Act} {w' : World} (h : Post w0 ρ1 Q e a' w') : Post w0 ρ Q e a' w' := by
  obtain ⟨out,env',h',h1,hq,h2,ρ',h3,h4,h5⟩ := h
  exact ⟨out,env',h',h1,hq,h2,ρ',he.trans h3,h4,h5⟩

theorem keepE_er {keep : List Nat} (E : ER ρ a env) : ER ρ a (keepE keep env) := by
  refine ⟨by have := E.1; simpa [keepE] using this,fun i v l hv hl => ?_⟩
  simp only [keepE,List.getElem?_mapIdx] at hl
  cases he : env[i]? with
  | none => rw [he] at hl; cases hl
  | some u =>
    rw [he] at hl
    simp only [Option.map_some,Option.some.injEq] at hl
    subst hl
    split
    · exact E.2 i v u hv he
    · exact .undef v

theorem code_wp (hcf : CallOK m P cs) (K : Nat) : ∀ (c : Code) (s : List (List Nat)) (lc : LCode) (s' : List (List Nat)),preCode P H c s = some (lc,s') →
    ∀ (ρ : List Place) (a : Act) (env : Env) (h : Heap) (w : World) (Q : Out → Env → Heap → Prop),codeS cs K lc env h Q →
      ER ρ a env → a.defers = [] → Rep w0 ρ h w → c.wp P (Post w0 ρ Q) a w := by
  intro c
  induction c with
  | skip =>
    intro s lc s' hp ρ a env h w Q hE E hd R
    simp only [preCode,Option.some.injEq,Prod.mk.injEq] at hp
    obtain ⟨rfl,_⟩ := hp
    exact wp_skip ⟨.norm,env,h,rfl,hE,hd,ρ,Ext.refl ρ,E,R⟩
  | region id ops draw =>
    intro s lc s' hp ρ a env h w Q hE E hd R
    simp only [preCode] at hp
    split at hp
    case h_1 => cases hp
    rename_i los hlos
    cases draw with
    | false =>
      simp only [Bool.false_eq_true,if_false,Option.some.injEq,Prod.mk.injEq] at hp
      obtain ⟨rfl,_⟩ := hp
      exact region_wp hcf hlos E hd R hE fun a' w' ρ' env' h' hq he hE' hdd hR => ⟨.norm,env',h',rfl,hq,hdd,ρ',he,hE',hR⟩
    | true =>
      simp only [if_true] at hp
      split at hp
      case isFalse => cases hp
      rename_i hc
      simp only [Bool.and_eq_true] at hc
      cases hp
      exact dregion_wp hcf hlos hc.1 hc.2 E hd R hE fun a' w' ρ' env' h' hq he hE' hdd hR => ⟨.norm,env',h',rfl,hq,hdd,ρ',he,hE',hR⟩
  | seq x y ihx ihy =>
    intro s lc s' hp ρ a env h w Q hE E hd R
    simp only [preCode] at hp
    split at hp
    case h_2 => cases hp
    rename_i lx s1 hx
    split at hp
    case h_2 => cases hp
    rename_i ly s2 hy
    cases hp
    refine wp_seq (wp_mono (ihx s lx s1 hx ρ a env h w _ hE E hd R) ?_)
    rintro e a1 w1 ⟨out,env1,h1,rfl,hq,hd1,ρ1,he1,hE1,hR1⟩
    cases out with
    | norm => exact wp_mono (ihy s1 ly _ hy ρ1 a1 env1 h1 w1 Q hq hE1 hd1 hR1) fun e a2 w2 hh => hh.trans he1
    | exit id => exact ⟨.exit id,env1,h1,rfl,hq,hd1,ρ1,he1,hE1,hR1⟩
    | ret => exact ⟨.ret,env1,h1,rfl,hq,hd1,ρ1,he1,hE1,hR1⟩
  | cond c x y ihx ihy =>
    intro s lc s' hp ρ a env h w Q hE E hd R
    simp only [preCode] at hp
    split at hp
    case h_2 => cases hp
    rename_i c' lx s1 hc hx
    split at hp
    case h_2 => cases hp
    rename_i ly s2 hy
    cases hp
    simp only [codeS] at hE
    split at hE
    case h_2 => exact hE.elim
    rename_i t ht
    have hv := preX_vr E hc
    rw [ht] at hv
    refine wp_cond hv.bool_inv ?_
    cases t with
    | true => exact ihx s lx s1 hx ρ a env h w Q hE E hd R
    | false => exact ihy s1 ly _ hy ρ a env h w Q hE E hd R
  | block id c ih =>
    intro s lc s' hp ρ a env h w Q hE E hd R
    simp only [preCode] at hp
    split at hp
    case h_2 => cases hp
    rename_i lx s1 hx
    cases hp
    refine wp_block (wp_mono (ih s lx _ hx ρ a env h w _ hE E hd R) ?_)
    rintro e a1 w1 ⟨out,env1,h1,rfl,hq,hrest⟩
    cases out with
    | norm => exact ⟨.norm,env1,h1,rfl,hq,hrest⟩
    | ret => exact ⟨.ret,env1,h1,rfl,hq,hrest⟩
    | exit j =>
      simp only at hq
      by_cases hj : j = id
      · rw [if_pos hj] at hq
        show Exit.inBlock id _ (.exit j) a1 w1
        simp only [Exit.inBlock,hj,if_true]
        exact ⟨.norm,env1,h1,rfl,hq,hrest⟩
      · rw [if_neg hj] at hq
        show Exit.inBlock id _ (.exit j) a1 w1
        simp only [Exit.inBlock,hj,if_false]
        exact ⟨.exit j,env1,h1,rfl,hq,hrest⟩
  | loop c ih =>
    intro s lc s' hp ρ a env h w Q hE E hd R
    cases s with
    | nil => simp [preCode] at hp
    | cons keep ks =>
      simp only [preCode] at hp
      split at hp
      case h_2 => cases hp
      rename_i lx s1 hx
      cases hp
      simp only [codeS] at hE
      have key : ∀ (k : Nat) (ρ1 : List Place) (a : Act) (env : Env) (h : Heap) (w : World),iterS (fun env h Q => codeS cs K lx (keepE keep env) h Q) k env h Q → Ext ρ ρ1 → ER ρ1 a env → a.defers = [] → Rep w0 ρ1 h w →
          (Code.loop c).wp P (Post w0 ρ Q) a w := by
        intro k
        induction k with
        | zero => intro ρ1 a env h w hE; exact hE.elim
        | succ k ihk =>
          intro ρ1 a env h w hE he E hd R
          simp only [iterS] at hE
          refine wp_loop_unroll (fun l a w hh => by obtain ⟨out,_,_,h1,_⟩ := hh; cases out <;> simp [exitOf] at h1) (fun a w hh => by obtain ⟨out,_,_,h1,_⟩ := hh; cases out <;> simp [exitOf] at h1) ?_
          refine wp_mono (ih _ lx _ hx ρ1 a (keepE keep env) h w _ hE (keepE_er E) hd R) ?_
          rintro e a1 w1 ⟨out,env1,h1,rfl,hq,hd1,ρ2,he2,hE2,hR2⟩
          cases out with
          | norm => exact ihk ρ2 a1 env1 h1 w1 hq (he.trans he2) hE2 hd1 hR2
          | exit j => exact ⟨.exit j,env1,h1,rfl,hq,hd1,ρ2,he.trans he2,hE2,hR2⟩
          | ret => exact ⟨.ret,env1,h1,rfl,hq,hd1,ρ2,he.trans he2,hE2,hR2⟩
      exact key K ρ a env h w hE (Ext.refl ρ) E hd R
  | exit id =>
    intro s lc s' hp ρ a env h w Q hE E hd R
    simp only [preCode,Option.some.injEq,Prod.mk.injEq] at hp
    obtain ⟨rfl,_⟩ := hp
    exact wp_exit ⟨.exit id,env,h,rfl,hE,hd,ρ,Ext.refl ρ,E,R⟩
  | ret =>
    intro s lc s' hp ρ a env h w Q hE E hd R
    simp only [preCode,Option.some.injEq,Prod.mk.injEq] at hp
    obtain ⟨rfl,_⟩ := hp
    exact wp_ret ⟨.ret,env,h,rfl,hE,hd,ρ,Ext.refl ρ,E,R⟩
  | _ => intro s lc s' hp; simp [preCode] at hp
end
end Lg
