/- In open order: what an operation of the machine of values does depends on what it looks at alone. -/
import Derived.Test.YtpoofafddbcnpaaVVgOps6
import Derived.Test.YtpoofafddbcnpaaVLgDraw
namespace Vg
open Go Lg
set_option linter.unusedSimpArgs false
set_option linter.unusedVariables false
set_option maxHeartbeats 1000000
section
variable {cf : VCall} {lo : Nat}

theorem vr_cong {env env2 : VEnv} {x : X} (h : ∀ n,x = .t n → env2.getD n .undef = env.getD n .undef) : vr env2 x = vr env x := by
  cases x with
  | c => rfl
  | t n => exact h n rfl
/-- The temporaries of operands. -/
def tmpsOf (xs : List X) : List Nat := xs.filterMap fun | .t n => some n | _ => none
theorem mem_tmpsOf {xs : List X} {n : Nat} (h : X.t n ∈ xs) : n ∈ tmpsOf xs := List.mem_filterMap.2 ⟨_,h,rfl⟩

theorem vfill_cong {env env2 : VEnv} : ∀ (ps : List (Nat × Nat × X)) (cs : List VV),(∀ x ∈ ps.map (·.2.2),vs env2 x = vs env x) → fillV env2 cs ps = fillV env cs ps
  | [],cs,h => rfl
  | (o,s,x) :: ps,cs,h => by
    simp only [fillV]
    rw [h x (by simp)]
    split
    · exact vfill_cong ps _ fun y hy => h y (by simp at hy ⊢; exact .inr hy)
    · rfl
theorem vbnds_cong {env env2 : VEnv} {len : Nat} {l h : Option X} (hl : ∀ x ∈ l.toList ++ h.toList,vr env2 x = vr env x) : vbnds env2 len l h = vbnds env len l h := by
  unfold vbnds
  cases l <;> cases h <;> simp_all

theorem opV_cong {op : LOp} {env env2 : VEnv} {h : VHeap} (hx : ∀ n ∈ tmpsOf op.xs,env2.getD n .undef = env.getD n .undef) : opV cf lo op env2 h = opV cf lo op env h := by
  have hr : ∀ x ∈ op.xs,vr env2 x = vr env x := fun x hm => vr_cong fun n e => hx n (mem_tmpsOf (e ▸ hm))
  have hs : ∀ x ∈ op.xs,vs env2 x = vs env x := fun x hm => by unfold vs; rw [hr x hm]
  have hc : ∀ x ∈ op.xs,cmpX env2 x = cmpX env x := fun x hm => by
    cases x with
    | c => rfl
    | t n => simp only [cmpX]; rw [hx n (mem_tmpsOf hm)]
  have hms : ∀ xs : List X,(∀ x ∈ xs,vs env2 x = vs env x) → xs.map (vs env2) = xs.map (vs env) := fun xs h => List.map_congr_left h
  have hmc : ∀ xs : List X,(∀ x ∈ xs,vr env2 x = vr env x) → (xs.map fun x => (vr env2 x).sc) = (xs.map fun x => (vr env x).sc) := fun xs h => List.map_congr_left fun x hm => by rw [h x hm]
  cases op <;> simp only [LOp.xs] at hr hs hc <;> simp only [opV]
  case build zs ps => rw [vfill_cong ps _ (fun x hm => hs x hm)]
  case bslice mt len es zs ps => rw [vfill_cong ps _ (fun x hm => hs x hm)]
  case min2 xs => rw [hmc xs hr]
  case max2 xs => rw [hmc xs hr]
  case ext k xs => rw [List.map_congr_left (f := fun x => argV (vr env2 x)) (g := fun x => argV (vr env x)) (l := xs) fun x hm => by rw [hr x hm]]
  case mkfunc f xs => rw [hms xs hs]
  case call pu f xs => rw [hms xs hs]
  case callv f xs => rw [hms xs (fun x hm => hs x (by simp [hm])),hr f (by simp)]
  case slc es x lo' hi mx =>
    have hb : ∀ n,vbnds env2 n lo' hi = vbnds env n lo' hi := fun n => vbnds_cong fun y hy => hr y (by simp at hy ⊢; rcases hy with h | h <;> simp [h])
    rw [hr x (by simp)]
    simp only [hb]
    cases mx with
    | none => rfl
    | some m => simp only [hr m (by simp)]
  case slcA len es x lo' hi =>
    have hb : ∀ n,vbnds env2 n lo' hi = vbnds env n lo' hi := fun n => vbnds_cong fun y hy => hr y (by simp at hy ⊢; rcases hy with h | h <;> simp [h])
    rw [hr x (by simp)]
    simp only [hb]
  case rewr k es g x f => rw [hr x (by simp),hr f (by simp)]
  case concat es bytes x => rw [hr x (by simp)]
  case capL x => rw [hr x (by simp)]
  case eqv ng k x y => rw [hc x (by simp),hc y (by simp)]
  all_goals first
    | rfl
    | (simp_all; done)
    | (simp only [hr _ (List.mem_cons_self ..),hs _ (List.mem_cons_self ..)])
    | skip
  all_goals first
    | (simp only [hr _ (List.mem_cons_self ..),hs _ (List.mem_cons_self ..),hr _ (List.mem_cons_of_mem _ (List.mem_cons_self ..)),hs _ (List.mem_cons_of_mem _ (List.mem_cons_self ..))]; done)
    | (simp only [hr _ (List.mem_cons_self ..),hs _ (List.mem_cons_self ..),hr _ (List.mem_cons_of_mem _ (List.mem_cons_self ..)),hs _ (List.mem_cons_of_mem _ (List.mem_cons_self ..)),hr _ (List.mem_cons_of_mem _ (List.mem_cons_of_mem _ (List.mem_cons_self ..))),hs _ (List.mem_cons_of_mem _ (List.mem_cons_of_mem _ (List.mem_cons_self ..)))]; done)

/-- What only reads leaves the blocks. -/
theorem touch1 {op : LOp} {env : VEnv} {h h' : VHeap} {v : VV} (ht : touch op ≠ 2) (hE : opV cf lo op env h = some (v,h')) : h' = h := by
  cases op <;> simp only [touch] at ht <;> simp only [opV] at hE <;> first | exact absurd rfl ht | skip
  case bslice mt len es zs ps =>
    split at hE
    case h_2 => cases hE
    split at ht
    · exact absurd rfl ht
    · rename_i hm
      rw [if_neg hm] at hE
      split at hE
      · cases hE; rfl
      · cases hE
  case load m ag n a =>
    split at ht
    · exact absurd rfl ht
    · rename_i hm
      (repeat' split at hE) <;> first | (cases hE; done) | (cases hE; rfl) | contradiction
  case append ap es bytes x y =>
    split at ht
    · rename_i ha
      subst ha
      unfold appendV at hE
      simp only at hE
      (repeat' split at hE) <;> first | (cases hE; done) | (cases hE; rfl)
    · exact absurd rfl ht
  case make mt es bytes zs l c =>
    split at ht
    · exact absurd rfl ht
    · rename_i hm
      (repeat' split at hE) <;> first | (cases hE; done) | (cases hE; rfl) | (simp_all; done)
  case call pu f xs =>
    split at ht
    · rename_i hp
      rw [if_pos hp] at hE
      (repeat' split at hE) <;> first | (cases hE; done) | (cases hE; rfl)
    · exact absurd rfl ht
  all_goals (repeat' split at hE) <;> first | (cases hE; done) | (cases hE; rfl) | skip

/-- What has nothing to do with the blocks does the same on others. -/
theorem touch0 {op : LOp} {env : VEnv} {h h' : VHeap} {v : VV} (ht : touch op = 0) (hE : opV cf lo op env h = some (v,h')) (h2 : VHeap) : opV cf lo op env h2 = some (v,h2) := by
  cases op <;> simp only [touch] at ht <;> simp only [opV] at hE ⊢ <;> first | (exact absurd ht (by decide)) | skip
  case bslice mt len es zs ps =>
    split at ht
    · exact absurd ht (by decide)
    rename_i hm
    split at hE
    case h_2 => cases hE
    rename_i cs hc
    rw [if_neg hm] at hE
    (try rw [hc])
    simp only [if_neg hm]
    split at hE
    · rename_i hq; rw [if_pos hq]; cases hE; rfl
    · cases hE
  case load m ag n a => split at ht <;> exact absurd ht (by decide)
  case append ap es bytes x y => split at ht <;> exact absurd ht (by decide)
  case make mt es bytes zs l c =>
    split at ht
    · exact absurd ht (by decide)
    rename_i hm
    have hm' : mt = false := by cases mt <;> simp_all
    subst hm'
    split at hE
    case h_2 => cases hE
    rename_i a b hx hy
    (try rw [hx,hy])
    (try simp only)
    split at hE
    case isFalse => cases hE
    rename_i hq
    rw [if_pos hq]
    simp only [if_true] at hE ⊢
    split at hE
    · rename_i hz; rw [if_pos hz]; cases hE; rfl
    · cases hE
  case call pu f xs =>
    split at ht
    · rename_i hp
      rw [if_pos hp] at hE ⊢
      split at hE
      case h_2 => cases hE
      rename_i v1 h1 hc
      (try rw [hc])
      (try simp only)
      split at hE
      · rename_i hq; rw [if_pos hq]; cases hE; rfl
      · cases hE
    · exact absurd ht (by decide)
  case slc es x lo' hi mx =>
    cases hx : vr env x <;> rw [hx] at hE <;> simp only at hE ⊢ <;> (repeat' split at hE) <;> first | (cases hE; done) | (cases hE; simp_all; done)
  all_goals (repeat' split at hE) <;> first | (cases hE; done) | (cases hE; simp_all; done) | (cases hE; rfl) | skip
end
end Vg
