/- Equations for evaluating the logical machine by simp. -/
import Derived.Test.YtehpimogdcilaaaLgLim
namespace Lg
open Go
set_option linter.unusedSimpArgs false

variable {cf : CallF} {lo : Nat} {env : Env} {h : Heap}

theorem ite_bind {α β : Type} (c : Prop) [Decidable c] (x y : Option α) (f : α → Option β) : (if c then x else y).bind f = if c then x.bind f else y.bind f := by split <;> rfl

theorem int_beq (a b : Int) : (a == b) = decide (a = b) := by by_cases h : a = b <;> simp [h]
theorem int_bne (a b : Int) : (a != b) = !decide (a = b) := by by_cases h : a = b <;> simp [h]
theorem nat_beq (a b : Nat) : (a == b) = decide (a = b) := by by_cases h : a = b <;> simp [h]
theorem bool_beq_true (b : Bool) : (b == true) = b := by cases b <;> rfl
theorem bool_beq_false (b : Bool) : (b == false) = !b := by cases b <;> rfl
theorem ite_bool (c : Prop) [Decidable c] (a b : Bool) : (if c then LV.bool a else LV.bool b) = LV.bool (if c then a else b) := by split <;> rfl
theorem cast_zero : ((0 : Nat) : Int) = 0 := rfl
theorem cast_one : ((1 : Nat) : Int) = 1 := rfl
theorem cast_add_one (n : Nat) : ((n + 1 : Nat) : Int) = (n : Int) + 1 := rfl
theorem opsE_nil : opsE cf lo [] env h = some (env, h) := rfl
theorem opsE_cons (o : LOper) (r : List LOper) : opsE cf lo (o :: r) env h = (operE cf lo o env h).bind fun p => opsE cf lo r p.1 p.2 := by
  rw [opsE]; cases operE cf lo o env h <;> rfl
theorem operE_plain (d : Option Nat) (op : LOp) : operE cf lo ⟨d, none, op⟩ env h = (opE cf lo op env h).bind fun p => some (putE env d p.1, p.2) := by
  unfold operE; simp only; cases opE cf lo op env h <;> rfl
/-- Does a guard's value let its operation be carried out? -/
def guardB (want : Bool) : LV → Option Bool
  | .bool b => some (b == want)
  | .tup _ => some false
  | _ => none
theorem operE_guard (d : Option Nat) (g : Nat) (want : Bool) (op : LOp) : operE cf lo ⟨d, some (g, want), op⟩ env h = (guardB want (env.getD g .undef)).bind fun b =>
    if b = true then (opE cf lo op env h).bind fun p => some (putE env d p.1, p.2) else some (putE env d (.tup []), h) := by
  unfold operE
  simp only
  cases env.getD g .undef <;> simp only [guardB, Option.bind_none, Option.bind_some, Bool.false_eq_true, if_false]
  rename_i b
  by_cases hb : b = want
  · subst hb; simp only [beq_self_eq_true, if_true]; cases opE cf lo op env h <;> rfl
  · simp only [hb, if_false, beq_iff_eq]

/-- What comes behind a piece of code. -/
def thenE (f : Env → Heap → Option (Out × Env × Heap)) : Out × Env × Heap → Option (Out × Env × Heap)
  | (.norm, env, h) => f env h
  | r => some r
theorem thenE_norm (f : Env → Heap → Option (Out × Env × Heap)) : thenE f (.norm, env, h) = f env h := rfl
theorem thenE_exit (f : Env → Heap → Option (Out × Env × Heap)) (j : Nat) : thenE f (.exit j, env, h) = some (.exit j, env, h) := rfl
theorem thenE_ret (f : Env → Heap → Option (Out × Env × Heap)) : thenE f (.ret, env, h) = some (.ret, env, h) := rfl
def blockE (id : Nat) : Out × Env × Heap → Option (Out × Env × Heap)
  | (.exit j, env, h) => if j = id then some (.norm, env, h) else some (.exit j, env, h)
  | r => some r
theorem blockE_norm (id : Nat) : blockE id (.norm, env, h) = some (.norm, env, h) := rfl
theorem blockE_exit (id j : Nat) : blockE id (.exit j, env, h) = if j = id then some (.norm, env, h) else some (.exit j, env, h) := rfl
theorem blockE_ret (id : Nat) : blockE id (.ret, env, h) = some (.ret, env, h) := rfl
/-- A test. -/
def condE {α : Type} (x y : α) : LV → Option α
  | .bool t => some (if t then x else y)
  | _ => none

theorem codeL_skip : codeL cf lo .skip env h = some (.norm, env, h) := rfl
theorem codeL_exit (id : Nat) : codeL cf lo (.exit id) env h = some (.exit id, env, h) := rfl
theorem codeL_ret : codeL cf lo .ret env h = some (.ret, env, h) := rfl
theorem codeL_ops (l : List LOper) : codeL cf lo (.ops l) env h = (opsE cf lo l env h).bind fun p => some (.norm, p.1, p.2) := by
  rw [codeL]; cases opsE cf lo l env h <;> rfl
theorem codeL_dops (l : List LOper) : codeL cf lo (.dops [] l) env h = (opsE cf lo l env h).bind fun p => some (.norm, p.1, p.2) := by
  rw [codeL]; simp only [dopsE]; cases opsE cf lo l env h <;> rfl
theorem codeL_seq (a b : LCode) : codeL cf lo (.seq a b) env h = (codeL cf lo a env h).bind (thenE (codeL cf lo b)) := by
  rw [codeL]
  cases codeL cf lo a env h with
  | none => rfl
  | some r => obtain ⟨o, e, h1⟩ := r; cases o <;> rfl
theorem codeL_cond (c : X) (a b : LCode) : codeL cf lo (.cond c a b) env h = match c.ev env with
    | .bool t => if t = true then codeL cf lo a env h else codeL cf lo b env h
    | _ => none := by rw [codeL]; rfl
theorem codeL_block (id : Nat) (c : LCode) : codeL cf lo (.block id c) env h = (codeL cf lo c env h).bind (blockE id) := by
  rw [codeL]
  cases codeL cf lo c env h with
  | none => rfl
  | some r => obtain ⟨o, e, h1⟩ := r; cases o <;> rfl
/-- A loop: what it keeps, its body. -/
noncomputable def loopL (cf : CallF) (lo : Nat) (keep : List Nat) (c : LCode) (env : Env) (h : Heap) : Option (Out × Env × Heap) := iterL (fun env h => codeL cf lo c (keepE keep env) h) env h
theorem codeL_loop (keep : List Nat) (c : LCode) : codeL cf lo (.loop keep c) env h = loopL cf lo keep c env h := by rw [codeL]; rfl
theorem iterL_eq (b : Env → Heap → Option (Out × Env × Heap)) (env : Env) (h : Heap) : iterL b env h = (b env h).bind (thenE (iterL b)) := by
  have none_of : (∀ r, iterL b env h ≠ some r) → iterL b env h = none := fun hn => by
    cases hx : iterL b env h with
    | none => rfl
    | some r => exact absurd hx (hn r)
  cases hb : b env h with
  | none =>
    refine none_of fun r hr => ?_
    obtain ⟨k, hk⟩ := iterL_some.1 hr
    cases k with
    | zero => cases hk
    | succ k => simp only [iterE, hb] at hk; cases hk
  | some x =>
    obtain ⟨o, e, h1⟩ := x
    have stop : (o = .norm → False) → iterL b env h = some (o, e, h1) := fun ho => by
      refine iterL_some.2 ⟨1, ?_⟩
      simp only [iterE, hb]
      cases o <;> first | exact absurd rfl ho | rfl
    cases o with
    | norm =>
      simp only [Option.bind_some, thenE]
      have fwd : ∀ r, iterL b env h = some r ↔ iterL b e h1 = some r := by
        intro r
        rw [iterL_some, iterL_some]
        constructor
        · intro ⟨k, hk⟩
          cases k with
          | zero => cases hk
          | succ k => simp only [iterE, hb] at hk; exact ⟨k, hk⟩
        · intro ⟨k, hk⟩
          exact ⟨k + 1, by simp only [iterE, hb]; exact hk⟩
      cases hx : iterL b e h1 with
      | none => exact none_of fun r hr => by rw [(fwd r).1 hr] at hx; cases hx
      | some r => exact (fwd r).2 hx
    | exit j => simp only [Option.bind_some, thenE]; exact stop (fun h => by cases h)
    | ret => simp only [Option.bind_some, thenE]; exact stop (fun h => by cases h)
theorem loopL_eq (keep : List Nat) (c : LCode) : loopL cf lo keep c env h = (codeL cf lo c (keepE keep env) h).bind (thenE (loopL cf lo keep c)) := by
  unfold loopL
  rw [iterL_eq]
theorem keepE_nil (keep : List Nat) : keepE keep [] = [] := rfl
/-- What a loop keeps, place by place. -/
def keepFrom (keep : List Nat) : Nat → Env → Env
  | _, [] => []
  | i, v :: r => (if keep.contains i then v else .undef) :: keepFrom keep (i + 1) r
theorem keepE_from (keep : List Nat) (env : Env) : keepE keep env = keepFrom keep 0 env := by
  have key : ∀ (env : Env) (i : Nat), (env.mapIdx fun j v => if keep.contains (j + i) then v else .undef) = keepFrom keep i env := by
    intro env
    induction env with
    | nil => intro i; rfl
    | cons v r ih =>
      intro i
      rw [List.mapIdx_cons]
      simp only [keepFrom, Nat.zero_add]
      congr 1
      rw [← ih (i + 1)]
      congr 1
      funext j v
      rw [show j + 1 + i = j + (i + 1) by omega]
  exact key env 0
/-- A function's end. -/
def endE (rs : List LRes) : Out × Env × Heap → Option (LV × Heap)
  | (.exit _, _, _) => none
  | (_, env, h) => (resultsE env h rs).bind fun vs => some (oneOf vs, h)
theorem endE_norm (rs : List LRes) : endE rs (.norm, env, h) = (resultsE env h rs).bind fun vs => some (oneOf vs, h) := rfl
theorem endE_ret (rs : List LRes) : endE rs (.ret, env, h) = (resultsE env h rs).bind fun vs => some (oneOf vs, h) := rfl
theorem bodyL_eq (f : LFunc) (args : List LV) (ha : args.length = f.nargs) : bodyL cf lo f args h = (codeL cf lo f.body (args ++ List.replicate (f.ntmps - f.nargs) (.tup [])) h).bind (endE f.results) := by
  unfold bodyL
  rw [if_pos ha]
  cases codeL cf lo f.body (args ++ List.replicate (f.ntmps - f.nargs) (.tup [])) h with
  | none => rfl
  | some r =>
    obtain ⟨o, e, h1⟩ := r
    cases o
    · simp only [Option.bind_some, endE]; cases resultsE e h1 f.results <;> rfl
    · rfl
    · simp only [Option.bind_some, endE]; cases resultsE e h1 f.results <;> rfl
end Lg
