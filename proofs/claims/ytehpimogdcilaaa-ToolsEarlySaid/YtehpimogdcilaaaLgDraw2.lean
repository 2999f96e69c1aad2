/- Regions whose order Go leaves open, continued. -/
import Derived.Test.YtehpimogdcilaaaLgDraw
namespace Lg
open Go Go.RowKit
set_option linter.unusedSimpArgs false
set_option linter.unusedVariables false

section
variable {cf : CallF} {lo : Nat}

theorem fillE_cong {env env2 : Env} : ∀ (ps : List (Nat × Nat × X)) (cs : List LV), (∀ x ∈ ps.map (·.2.2), x.ev env2 = x.ev env) → fillE env2 cs ps = fillE env cs ps
  | [], cs, _ => rfl
  | (o, s, x) :: ps, cs, h => by
    have h1 := h x (by simp)
    simp only [fillE, h1]
    split
    · exact fillE_cong ps _ fun y hy => h y (by simp at hy ⊢; exact .inr hy)
    · rfl

theorem bnds_cong {env env2 : Env} {len : Nat} {l h : Option X} (hl : ∀ x ∈ l.toList ++ h.toList, x.ev env2 = x.ev env) : bnds env2 len l h = bnds env len l h := by
  unfold bnds
  cases l <;> cases h <;> simp_all

theorem opE_cong {op : LOp} {env env2 : Env} {h : Heap} (hx : ∀ x ∈ op.xs, x.ev env2 = x.ev env) : opE cf lo op env2 h = opE cf lo op env h := by
  have hmap : ∀ (xs : List X), (∀ x ∈ xs, x.ev env2 = x.ev env) → xs.map (X.ev env2) = xs.map (X.ev env) := fun xs hx => List.map_congr_left hx
  cases op <;> simp only [LOp.xs] at hx <;> simp only [opE]
  case build zs ps => rw [fillE_cong ps zs hx]
  case bslice a b zs ps => rw [fillE_cong ps zs hx]
  case min2 xs => rw [hmap xs hx]
  case max2 xs => rw [hmap xs hx]
  case mkfunc f xs => rw [hmap xs hx]
  case call f xs => rw [hmap xs hx]
  case callv f xs => rw [hmap xs (fun x h => hx x (by simp [h])), hx f (by simp)]
  case slc es x l h' m =>
    rw [hx x (by simp)]
    have hb : ∀ n, bnds env2 n l h' = bnds env n l h' := fun n => bnds_cong fun y hy => hx y (by simp at hy ⊢; rcases hy with hy | hy <;> simp [hy])
    have hm : ∀ y, m = some y → y.ev env2 = y.ev env := fun y hy => hx y (by simp [hy])
    simp only [hb]
    cases m with
    | none => rfl
    | some y => simp only [hm y rfl]
  case slcA n es x l h' =>
    rw [hx x (by simp)]
    have hb : ∀ n, bnds env2 n l h' = bnds env n l h' := fun n => bnds_cong fun y hy => hx y (by simp at hy ⊢; rcases hy with hy | hy <;> simp [hy])
    simp only [hb]
  all_goals (first | rfl | (simp only [hx _ (List.mem_cons_self ..)]; done) | (simp_all; done))

/-- The heap is handed on. -/
def thru {α : Type} (c : Option α) (f : α → Option LV) (h : Heap) : Option (LV × Heap) :=
  match c with
  | some x => match f x with
    | some y => some (y, h)
    | none => none
  | none => none
theorem thru_match {α : Type} {c : Option α} {f : α → Option LV} {h h' h2 : Heap} {v : LV} (hE : thru c f h = some (v, h')) : h' = h ∧ thru c f h2 = some (v, h2) := by
  unfold thru at *
  cases c with
  | none => cases hE
  | some x =>
    simp only at hE ⊢
    cases hf : f x with
    | none => rw [hf] at hE; cases hE
    | some y => rw [hf] at hE; cases hE; exact ⟨rfl, rfl⟩

theorem opE_quiet {op : LOp} {env : Env} {h h' : Heap} {v : LV} (hc : op.changes = false) (hE : opE cf lo op env h = some (v, h')) :
    h' = h ∧ ∀ h2 : Heap, (∀ n, readsE op env = some n → h2[n]? = h[n]?) → opE cf lo op env h2 = some (v, h2) := by
  cases op <;> simp only [LOp.changes, Bool.true_eq_false] at hc
  case load ag n x =>
    simp only [opE] at hE ⊢
    simp only [readsE]
    cases hb : x.ev env <;> rw [hb] at hE <;> simp only at hE <;> first | (cases hE; done) | skip
    rename_i b off
    cases hbl : h[b]? with
    | none => rw [hbl] at hE; cases hE
    | some bl =>
      rw [hbl] at hE
      cases bl with
      | cells rw cs =>
        simp only at hE
        cases ag with
        | true =>
          simp only [if_true] at hE
          split at hE
          · rename_i hle
            cases hE
            refine ⟨rfl, fun h2 hh => ?_⟩
            simp only
            rw [hh b rfl, hbl]
            simp only [if_true, hle]
          · cases hE
        | false =>
          simp only [Bool.false_eq_true, if_false] at hE
          split at hE
          · rename_i y hy
            cases hE
            refine ⟨rfl, fun h2 hh => ?_⟩
            simp only
            rw [hh b rfl, hbl]
            simp only [Bool.false_eq_true, if_false, hy]
          · cases hE
      | map es => cases hE
      | dead => cases hE
  case b2s x =>
    simp only [opE] at hE ⊢
    simp only [readsE]
    cases hb : x.ev env <;> rw [hb] at hE <;> simp only at hE <;> first | (cases hE; done) | skip
    · rename_i n off len es f
      split at hE
      · rename_i hes
        have e1 := fun h2 => thru_match (f := fun cs => (bytesOf cs).map LV.str) (c := cellsOf h (.slice n off len es f)) (h := h) (h' := h') (h2 := h2) (v := v) (by
          rw [← hE]
          unfold thru
          cases cellsOf h (.slice n off len es f) with
          | none => rfl
          | some cs => simp only []; cases bytesOf cs <;> rfl)
        refine ⟨(e1 h).1, fun h2 hh => ?_⟩
        have e2 : cellsOf h2 (.slice n off len es f) = cellsOf h (.slice n off len es f) := by simp only [cellsOf, hh n rfl]
        simp only
        rw [if_pos hes, e2, ← (e1 h2).2]
        unfold thru
        cases cellsOf h (.slice n off len es f) with
        | none => rfl
        | some cs => simp only []; cases bytesOf cs <;> rfl
      · cases hE
    · cases hE; exact ⟨rfl, fun h2 hh => rfl⟩
  case lenM x =>
    simp only [opE] at hE ⊢
    simp only [readsE]
    cases hb : x.ev env <;> rw [hb] at hE <;> simp only at hE <;> first | (cases hE; done) | skip
    · rename_i n
      cases hbl : h[n]? with
      | none => rw [hbl] at hE; cases hE
      | some bl =>
        rw [hbl] at hE
        cases bl <;> simp only at hE <;> first | (cases hE; done) | skip
        cases hE
        exact ⟨rfl, fun h2 hh => by simp only; rw [hh n rfl, hbl]⟩
    · cases hE; exact ⟨rfl, fun h2 hh => rfl⟩
  case slcA n es x l r =>
    simp only [opE] at hE ⊢
    simp only [readsE]
    cases hb : x.ev env <;> rw [hb] at hE <;> simp only at hE <;> first | (cases hE; done) | skip
    rename_i b off
    cases hbn : bnds env n l r with
    | none => rw [hbn] at hE; cases hE
    | some le =>
      rw [hbn] at hE
      simp only at hE ⊢
      cases hbl : h[b]? with
      | none => rw [hbl] at hE; cases hE
      | some bl =>
        rw [hbl] at hE
        cases bl <;> simp only at hE <;> first | (cases hE; done) | skip
        split at hE
        · rename_i hle
          cases hE
          exact ⟨rfl, fun h2 hh => by rw [hh b rfl, hbl]; simp only [hle, if_true]⟩
        · cases hE
  case lookup z ok m k =>
    simp only [opE] at hE ⊢
    simp only [readsE]
    split at hE
    case isFalse => cases hE
    rename_i hk
    simp only [hk, if_true]
    cases hb : m.ev env <;> rw [hb] at hE <;> simp only at hE <;> first | (cases hE; done) | skip
    · rename_i n
      cases hbl : h[n]? with
      | none => rw [hbl] at hE; cases hE
      | some bl =>
        rw [hbl] at hE
        cases bl <;> simp only at hE <;> first | (cases hE; done) | skip
        rename_i es
        cases hf : findE (k.ev env) es with
        | none => rw [hf] at hE; cases hE
        | some r =>
          rw [hf] at hE
          cases r <;> simp only at hE <;> cases hE <;> exact ⟨rfl, fun h2 hh => by simp only; rw [hh n rfl, hbl]; simp only [hf]⟩
    · cases hE; exact ⟨rfl, fun h2 hh => rfl⟩
  all_goals
    simp only [opE] at hE ⊢
    (repeat' split at hE) <;> first
      | (cases hE; done)
      | (cases hE; exact ⟨rfl, fun h2 _ => rfl⟩)
      | (cases hE; refine ⟨rfl, fun h2 _ => ?_⟩; simp [*]; done)
      | (cases hE; refine ⟨rfl, fun h2 _ => ?_⟩; simp_all; done)

/-- What an operation does hangs on what it looks at alone. -/
theorem operE_val {o : LOper} {env env' : Env} {h h' : Heap} (hE : operE cf lo o env h = some (env', h')) :
    ∃ v, env' = putE env o.dst v ∧ (∀ env2 : Env, (∀ t ∈ o.looksAt, env2.getD t .undef = env.getD t .undef) → operE cf lo o env2 h = some (putE env2 o.dst v, h')) ∧
      (o.op.changes = false → h' = h ∧ ∀ (env2 : Env) (h2 : Heap), (∀ t ∈ o.looksAt, env2.getD t .undef = env.getD t .undef) → (∀ n, readsE o.op env = some n → h2[n]? = h[n]?) → operE cf lo o env2 h2 = some (putE env2 o.dst v, h2)) := by
  have hxs : ∀ env2 : Env, (∀ t ∈ o.looksAt, env2.getD t .undef = env.getD t .undef) → ∀ x ∈ o.op.xs, x.ev env2 = x.ev env := by
    intro env2 ha x hx
    cases x with
    | c v => rfl
    | t n => exact ha n (by unfold LOper.looksAt; exact List.mem_append_left _ (List.mem_filterMap.2 ⟨.t n, hx, rfl⟩))
  have run : ∀ (v : LV), opE cf lo o.op env h = some (v, h') → (∀ env2 : Env, (∀ t ∈ o.looksAt, env2.getD t .undef = env.getD t .undef) → opE cf lo o.op env2 h = some (v, h')) ∧
      (o.op.changes = false → h' = h ∧ ∀ (env2 : Env) (h2 : Heap), (∀ t ∈ o.looksAt, env2.getD t .undef = env.getD t .undef) → (∀ n, readsE o.op env = some n → h2[n]? = h[n]?) → opE cf lo o.op env2 h2 = some (v, h2)) := by
    intro v hv
    refine ⟨fun env2 ha => by rw [opE_cong (hxs env2 ha)]; exact hv, fun hc => ?_⟩
    obtain ⟨h1, h2⟩ := opE_quiet hc hv
    exact ⟨h1, fun env2 hh ha hr => by rw [opE_cong (hxs env2 ha)]; exact h2 hh hr⟩
  unfold operE at hE
  split at hE
  · rename_i hg
    split at hE
    case h_2 => cases hE
    rename_i v h1 hv
    cases hE
    obtain ⟨r1, r2⟩ := run v hv
    refine ⟨v, rfl, fun env2 ha => ?_, fun hc => ?_⟩
    · unfold operE; rw [hg]; simp only [r1 env2 ha]
    · obtain ⟨q1, q2⟩ := r2 hc
      refine ⟨q1, fun env2 h2 ha hr => ?_⟩
      unfold operE; rw [hg]; simp only [q2 env2 h2 ha hr]
  · rename_i g want hg
    have hga : ∀ env2 : Env, (∀ t ∈ o.looksAt, env2.getD t .undef = env.getD t .undef) → env2.getD g .undef = env.getD g .undef := fun env2 ha => ha g (by unfold LOper.looksAt; rw [hg]; simp)
    split at hE
    · rename_i b hb
      split at hE
      · rename_i hbw
        split at hE
        case h_2 => cases hE
        rename_i v h1 hv
        cases hE
        obtain ⟨r1, r2⟩ := run v hv
        refine ⟨v, rfl, fun env2 ha => ?_, fun hc => ?_⟩
        · unfold operE; rw [hg]; simp only [hga env2 ha, hb, hbw, if_true, r1 env2 ha]
        · obtain ⟨q1, q2⟩ := r2 hc
          refine ⟨q1, fun env2 h2 ha hr => ?_⟩
          unfold operE; rw [hg]; simp only [hga env2 ha, hb, hbw, if_true, q2 env2 h2 ha hr]
      · rename_i hbw
        cases hE
        refine ⟨.tup [], rfl, fun env2 ha => ?_, fun hc => ⟨rfl, fun env2 h2 ha hr => ?_⟩⟩
        · unfold operE; rw [hg]; simp only [hga env2 ha, hb, hbw, if_false]
        · unfold operE; rw [hg]; simp only [hga env2 ha, hb, hbw, if_false]
    · rename_i vs hb
      cases hE
      refine ⟨.tup [], rfl, fun env2 ha => ?_, fun hc => ⟨rfl, fun env2 h2 ha hr => ?_⟩⟩
      · unfold operE; rw [hg]; simp only [hga env2 ha, hb]
      · unfold operE; rw [hg]; simp only [hga env2 ha, hb]
    · cases hE
end
end Lg
