/- Equations for evaluating the machine of values by simp; loops; calls. -/
import Derived.Test.YtpoofafddbcnpaaVVgLim
namespace Vg
open Go Lg
set_option linter.unusedSimpArgs false
set_option linter.unusedVariables false

variable {cf : VCall} {lo : Nat} {env : VEnv} {h : VHeap}

theorem bind_congr1 {α β : Type} {x y : Option α} {f : α → Option β} (h : x = y) : x.bind f = y.bind f := by rw [h]
/-- A step that is not taken for a mere unfolding. -/
theorem nr {α : Type} {a b : α} (h : a = b) : a = b := h
/-- A run that comes out,and how. -/
def Sat {α : Type} (x : Option α) (P : α → Prop) : Prop := ∃ r,x = some r ∧ P r
theorem Sat_some {α : Type} (r : α) (P : α → Prop) : Sat (some r) P ↔ P r := ⟨fun ⟨_,h,hp⟩ => by cases h; exact hp,fun h => ⟨r,rfl,h⟩⟩
theorem Sat.bind {α β : Type} {x : Option α} {f : α → Option β} {P : α → Prop} {Q : β → Prop} (hx : Sat x P) (h : ∀ r,P r → Sat (f r) Q) : Sat (x.bind f) Q := by
  obtain ⟨r,rfl,hp⟩ := hx; exact h r hp
theorem Sat_bind {α β : Type} {x : Option α} {f : α → Option β} {Q : β → Prop} : Sat (x.bind f) Q ↔ Sat x fun r => Sat (f r) Q := by
  cases x with
  | none => exact ⟨fun ⟨_,h,_⟩ => (by cases h),fun ⟨_,h,_⟩ => (by cases h)⟩
  | some a => exact ⟨fun h => ⟨a,rfl,h⟩,fun ⟨_,h,hq⟩ => (by cases h; exact hq)⟩
theorem Sat.mono {α : Type} {x : Option α} {P Q : α → Prop} (hx : Sat x P) (h : ∀ r,P r → Q r) : Sat x Q := by
  obtain ⟨r,hr,hp⟩ := hx; exact ⟨r,hr,h r hp⟩

theorem opsV_nil : opsV cf lo [] env h = some (env,h) := nr rfl
theorem opsV_d (d : Nat) (op : LOp) (r : List LOper) : opsV cf lo (⟨some d,none,op⟩ :: r) env h = (opV cf lo op env h).bind fun p => opsV cf lo r ((post op env h).set d p.1) p.2 := by
  rw [opsV]; simp only [operV]; cases opV cf lo op env h <;> rfl
theorem opsV_n (op : LOp) (r : List LOper) : opsV cf lo (⟨none,none,op⟩ :: r) env h = (opV cf lo op env h).bind fun p => opsV cf lo r (post op env h) p.2 := by
  rw [opsV]; simp only [operV]; cases opV cf lo op env h <;> rfl
/-- A guard. -/
def guardV (want : Bool) : VV → Option Bool
  | .bool b => some (b == want)
  | .tup _ => some false
  | _ => none
theorem opsV_g (d : Option Nat) (g : Nat) (want : Bool) (op : LOp) (r : List LOper) : opsV cf lo (⟨d,some (g,want),op⟩ :: r) env h = ((guardV want (env.getD g .undef)).bind fun b =>
    if b = true then (opV cf lo op env h).bind fun p => some (putV (post op env h) d p.1,p.2) else some (putV env d (.tup []),h)).bind fun p => opsV cf lo r p.1 p.2 := by
  rw [opsV]
  simp only [operV]
  cases env.getD g .undef <;> simp only [guardV,Option.bind_none,Option.bind_some,Bool.false_eq_true,if_false]
  rename_i b
  by_cases hb : b = want
  · subst hb; simp only [beq_self_eq_true,if_true]; cases opV cf lo op env h <;> rfl
  · simp only [hb,if_false,beq_iff_eq,Option.bind_some]

def thenV (f : VEnv → VHeap → Option (Out × VEnv × VHeap)) : Out × VEnv × VHeap → Option (Out × VEnv × VHeap)
  | (.norm,env,h) => f env h
  | r => some r
theorem thenV_norm (f : VEnv → VHeap → Option (Out × VEnv × VHeap)) : thenV f (.norm,env,h) = f env h := rfl
theorem thenV_exit (f : VEnv → VHeap → Option (Out × VEnv × VHeap)) (j : Nat) : thenV f (.exit j,env,h) = some (.exit j,env,h) := rfl
theorem thenV_ret (f : VEnv → VHeap → Option (Out × VEnv × VHeap)) : thenV f (.ret,env,h) = some (.ret,env,h) := rfl
def blockV (id : Nat) : Out × VEnv × VHeap → Option (Out × VEnv × VHeap)
  | (.exit j,env,h) => if j = id then some (.norm,env,h) else some (.exit j,env,h)
  | r => some r
theorem blockV_norm (id : Nat) : blockV id (.norm,env,h) = some (.norm,env,h) := nr rfl
theorem blockV_exit (id j : Nat) : blockV id (.exit j,env,h) = if j = id then some (.norm,env,h) else some (.exit j,env,h) := nr rfl
theorem blockV_ret (id : Nat) : blockV id (.ret,env,h) = some (.ret,env,h) := nr rfl

theorem codeVL_skip : codeVL cf lo .skip env h = some (.norm,env,h) := nr rfl
theorem codeVL_exit (id : Nat) : codeVL cf lo (.exit id) env h = some (.exit id,env,h) := nr rfl
theorem codeVL_ret : codeVL cf lo .ret env h = some (.ret,env,h) := nr rfl
theorem codeVL_ops (l : List LOper) : codeVL cf lo (.ops l) env h = (opsV cf lo l env h).bind fun p => some (.norm,p.1,p.2) := by
  rw [codeVL]; cases opsV cf lo l env h <;> rfl
theorem codeVL_dops {bs : List Nat} {l : List LOper} (hd : drawC bs l = true) : codeVL cf lo (.dops bs l) env h = (opsV cf lo l env h).bind fun p => some (.norm,p.1,p.2) := by
  rw [codeVL,dopsV,if_pos hd]; cases opsV cf lo l env h <;> rfl
/-- What decides where a region looks. -/
def rootX : LOp → Option X
  | .fieldAddr _ x => some x
  | .load false _ _ x => some x
  | _ => none
def calmL : List Nat → VHeap → VHeap → Prop
  | [],_,_ => True
  | b :: r,h,h' => h'[b]? = h[b]? ∧ calmL r h h'
theorem calmL_iff (h h' : VHeap) : ∀ wl : List Nat,calmL wl h h' ↔ ∀ b ∈ wl,h'[b]? = h[b]?
  | [] => by simp [calmL]
  | b :: r => by simp [calmL,calmL_iff h h' r]
theorem calmL_nil (h h' : VHeap) : calmL [] h h' = True := nr rfl
theorem calmL_cons (b : Nat) (r : List Nat) (h h' : VHeap) : calmL (b :: r) h h' = (h'[b]? = h[b]? ∧ calmL r h h') := nr rfl
theorem calmL_same (wl : List Nat) (h : VHeap) : calmL wl h h = True := eq_true ((calmL_iff h h wl).2 fun _ _ => rfl)
def okP (wl : List Nat) : VV → Prop
  | .ptr n _ => n ∈ wl
  | _ => True
open Classical in
theorem opsW_nil (wl : List Nat) : opsW cf lo wl [] env h = some (env,h) := nr rfl
open Classical in
theorem opsW_d (wl : List Nat) (d : Nat) (op : LOp) (r : List LOper) : opsW cf lo wl (⟨some d,none,op⟩ :: r) env h = (opV cf lo op env h).bind fun p => if okLd wl env op ∧ calmL wl h p.2 then opsW cf lo wl r ((post op env h).set d p.1) p.2 else none := by
  rw [opsW]; simp only [operV]
  cases opV cf lo op env h with
  | none => rfl
  | some p => simp only [Option.bind_some,calmL_iff]; rfl
open Classical in
theorem opsW_n (wl : List Nat) (op : LOp) (r : List LOper) : opsW cf lo wl (⟨none,none,op⟩ :: r) env h = (opV cf lo op env h).bind fun p => if okLd wl env op ∧ calmL wl h p.2 then opsW cf lo wl r (post op env h) p.2 else none := by
  rw [opsW]; simp only [operV]
  cases opV cf lo op env h with
  | none => rfl
  | some p => simp only [Option.bind_some,calmL_iff]; rfl
theorem codeVL_dopsW {bs : List Nat} {l : List LOper} (h0 : drawC bs l = false) (hd : drawW bs l = true) : codeVL cf lo (.dops bs l) env h = (opsW cf lo (rootsV (ldTs l) env l) l env h).bind fun p => some (.norm,p.1,p.2) := by
  rw [codeVL,dopsV,if_neg (by rw [h0]; decide),if_pos hd]; cases opsW cf lo (rootsV (ldTs l) env l) l env h <;> rfl
open Classical in
theorem codeVL_dopsX0 {bs : List Nat} {l : List LOper} (h0 : drawC bs l = false) (h1 : drawW bs l = false) : codeVL cf lo (.dops bs l) env h = match badPair bs l with
    | some (a,b) => if drawX bs l a b = true then (opsV cf lo l env h).bind fun r => (opsV cf lo (moveTo a b l) env h).bind fun r' => if r = r' then some (.norm,r.1,r.2) else none else (opsYd cf lo bs l env h).bind fun p => some (.norm,p.1,p.2)
    | none => (opsYd cf lo bs l env h).bind fun p => some (.norm,p.1,p.2) := by
  rw [codeVL,dopsV,if_neg (by rw [h0]; decide),if_neg (by rw [h1]; decide)]
  have y : (match opsYd cf lo bs l env h with
      | some (env',h') => some (Out.norm,env',h')
      | none => none) = (opsYd cf lo bs l env h).bind fun p => some (.norm,p.1,p.2) := by cases opsYd cf lo bs l env h <;> rfl
  cases badPair bs l with
  | none => exact y
  | some ab =>
    obtain ⟨a,b⟩ := ab
    simp only
    by_cases hd : drawX bs l a b = true
    · rw [if_pos hd,if_pos hd,opsX]
      cases opsV cf lo l env h with
      | none => rfl
      | some r =>
        simp only [Option.bind_some]
        cases opsV cf lo (moveTo a b l) env h with
        | none => rfl
        | some r' =>
          simp only [Option.bind_some]
          by_cases hr : r = r'
          · rw [if_pos hr,if_pos hr]
          · rw [if_neg hr,if_neg hr]
    · rw [if_neg hd,if_neg hd]; exact y
/-- A region that makes two blocks in either order. -/
def isX (bs : List Nat) (l : List LOper) : Bool := match badPair bs l with
  | some (a,b) => drawX bs l a b
  | none => false
open Classical in
theorem codeVL_dopsX {bs : List Nat} {l : List LOper} (h0 : drawC bs l = false) (h1 : drawW bs l = false) (h2 : isX bs l = true) : codeVL cf lo (.dops bs l) env h = match badPair bs l with
    | some (a,b) => if drawX bs l a b = true then (opsV cf lo l env h).bind fun r => (opsV cf lo (moveTo a b l) env h).bind fun r' => if r = r' then some (.norm,r.1,r.2) else none else none
    | none => none := by
  rw [codeVL_dopsX0 h0 h1]
  unfold isX at h2
  split
  · rename_i a b hb
    rw [hb] at h2
    simp only at h2
    rw [if_pos h2,if_pos h2]
  · rename_i hb
    rw [hb] at h2
    cases h2
open Classical in
theorem codeVL_dopsY {bs : List Nat} {l : List LOper} (h0 : drawC bs l = false) (h1 : drawW bs l = false) (h2 : isX bs l = false) (h3 : (allocPair bs l).isSome = true) : codeVL cf lo (.dops bs l) env h = match allocPair bs l with
    | some (a,b) => if drawY bs l a b = true then (opsW cf lo (rootsV (ldTs l) env l) l env h).bind fun r => (opsW cf lo (rootsV (ldTs (moveTo a b l)) env (moveTo a b l)) (moveTo a b l) env h).bind fun r' => if swS h.length r r' then some (.norm,r.1,r.2) else none else none
    | none => none := by
  have e2 : ((opsYd cf lo bs l env h).bind fun p => some (Out.norm,p.1,p.2)) = match allocPair bs l with
    | some (a,b) => if drawY bs l a b = true then (opsW cf lo (rootsV (ldTs l) env l) l env h).bind fun r => (opsW cf lo (rootsV (ldTs (moveTo a b l)) env (moveTo a b l)) (moveTo a b l) env h).bind fun r' => if swS h.length r r' then some (.norm,r.1,r.2) else none else none
    | none => none := by
    unfold opsYd
    cases hap : allocPair bs l with
    | none => rw [hap] at h3; cases h3
    | some ab =>
      obtain ⟨a,b⟩ := ab
      simp only
      by_cases hd : drawY bs l a b = true
      · rw [if_pos hd,if_pos hd,opsY]
        cases opsW cf lo (rootsV (ldTs l) env l) l env h with
        | none => rfl
        | some r =>
          simp only [Option.bind_some]
          cases opsW cf lo (rootsV (ldTs (moveTo a b l)) env (moveTo a b l)) (moveTo a b l) env h with
          | none => rfl
          | some r' =>
            simp only [Option.bind_some]
            by_cases hr : swS h.length r r'
            · rw [if_pos hr,if_pos hr]; rfl
            · rw [if_neg hr,if_neg hr]; rfl
      · rw [if_neg hd,if_neg hd]; rfl
  rw [codeVL_dopsX0 h0 h1,← e2]
  unfold isX at h2
  split
  · rename_i a b hb
    rw [hb] at h2
    simp only at h2
    rw [if_neg (by rw [h2]; decide)]
  · rfl
open Classical in
theorem codeVL_dopsZ {bs : List Nat} {l : List LOper} (h0 : drawC bs l = false) (h1 : drawW bs l = false) (h2 : isX bs l = false) (h3 : allocPair bs l = none) : codeVL cf lo (.dops bs l) env h = match wrPair bs l with
    | some (a,b) => if drawZ bs l a b = true then (opsW cf lo (rootsV (ldTs l) env l) l env h).bind fun r => (opsW cf lo (rootsV (ldTs (moveBk a b l)) env (moveBk a b l)) (moveBk a b l) env h).bind fun r' => if r = r' then some (.norm,r.1,r.2) else none else none
    | none => none := by
  have e2 : ((opsYd cf lo bs l env h).bind fun p => some (Out.norm,p.1,p.2)) = match wrPair bs l with
    | some (a,b) => if drawZ bs l a b = true then (opsW cf lo (rootsV (ldTs l) env l) l env h).bind fun r => (opsW cf lo (rootsV (ldTs (moveBk a b l)) env (moveBk a b l)) (moveBk a b l) env h).bind fun r' => if r = r' then some (.norm,r.1,r.2) else none else none
    | none => none := by
    unfold opsYd
    rw [h3]
    simp only
    unfold opsZd
    cases wrPair bs l with
    | none => rfl
    | some ab =>
      obtain ⟨a,b⟩ := ab
      simp only
      by_cases hd : drawZ bs l a b = true
      · rw [if_pos hd,if_pos hd,opsZ]
        cases opsW cf lo (rootsV (ldTs l) env l) l env h with
        | none => rfl
        | some r =>
          simp only [Option.bind_some]
          cases opsW cf lo (rootsV (ldTs (moveBk a b l)) env (moveBk a b l)) (moveBk a b l) env h with
          | none => rfl
          | some r' =>
            simp only [Option.bind_some]
            by_cases hr : r = r'
            · rw [if_pos hr,if_pos hr]; rfl
            · rw [if_neg hr,if_neg hr]; rfl
      · rw [if_neg hd,if_neg hd]; rfl
  rw [codeVL_dopsX0 h0 h1,← e2]
  unfold isX at h2
  split
  · rename_i a b hb
    rw [hb] at h2
    simp only at h2
    rw [if_neg (by rw [h2]; decide)]
  · rfl
theorem swS_eq (m : Nat) (e e' : VEnv) (g g' : VHeap) : swS m (e,g) (e',g') = (m ≤ g'.length - 2 ∧ 2 ≤ g'.length ∧ e = e'.map (swp (g'.length - 2)) ∧ e'.all (okS (g'.length - 2)) = true ∧ g.take (g'.length - 2) = g'.take (g'.length - 2) ∧ swH (g.drop (g'.length - 2)) (g'.drop (g'.length - 2))) := nr rfl
theorem swH_eq (c1 c2 d1 d2 : List VV) : swH [.cells true c1,.cells true c2] [.cells true d1,.cells true d2] = (c1 = d2 ∧ c2 = d1 ∧ d1.all scalB = true ∧ d2.all scalB = true) := nr rfl
theorem swp_ptr (n k o : Nat) : swp n (.ptr k o) = .ptr (if k = n then n + 1 else if k = n + 1 then n else k) o := nr rfl
theorem swp_undef (n : Nat) : swp n .undef = .undef := nr rfl
theorem swp_bool (n : Nat) (b : Bool) : swp n (.bool b) = .bool b := nr rfl
theorem swp_int (n : Nat) (k : IntKind) (z : Int) : swp n (.int k z) = .int k z := nr rfl
theorem swp_str (n : Nat) (s : List UInt8) : swp n (.str s) = .str s := nr rfl
theorem swp_cptr (n o : Nat) (cs : List VV) : swp n (.cptr cs o) = .cptr cs o := nr rfl
theorem swp_nilptr (n : Nat) : swp n .nilptr = .nilptr := nr rfl
theorem swp_list (n : Nat) (m : LMode) (r : List (List VV)) : swp n (.list m r) = .list m r := nr rfl
theorem swp_func (n : Nat) (f : FuncId) (cs : List VV) : swp n (.func f cs) = .func f cs := nr rfl
theorem swp_agg (n : Nat) (cs : List VV) : swp n (.agg cs) = .agg cs := nr rfl
theorem swp_tup (n : Nat) (cs : List VV) : swp n (.tup cs) = .tup cs := nr rfl
theorem okS_ptr (n k o : Nat) : okS n (.ptr k o) = decide (k < n + 2) := nr rfl
theorem okS_undef (n : Nat) : okS n .undef = true := nr rfl
theorem okS_bool (n : Nat) (b : Bool) : okS n (.bool b) = true := nr rfl
theorem okS_int (n : Nat) (k : IntKind) (z : Int) : okS n (.int k z) = true := nr rfl
theorem okS_str (n : Nat) (s : List UInt8) : okS n (.str s) = true := nr rfl
theorem okS_cptr (n o : Nat) (cs : List VV) : okS n (.cptr cs o) = true := nr rfl
theorem okS_nilptr (n : Nat) : okS n .nilptr = true := nr rfl
theorem okS_list (n : Nat) (m : LMode) (r : List (List VV)) : okS n (.list m r) = true := nr rfl
theorem okS_func (n : Nat) (f : FuncId) (cs : List VV) : okS n (.func f cs) = lowL n cs := nr (by unfold okS VV.low; rfl)
theorem okS_agg (n : Nat) (cs : List VV) : okS n (.agg cs) = lowL n cs := nr (by unfold okS VV.low; rfl)
theorem okS_tup (n : Nat) (cs : List VV) : okS n (.tup cs) = lowL n cs := nr (by unfold okS VV.low; rfl)
theorem scalB_bool (b : Bool) : scalB (.bool b) = true := nr rfl
theorem scalB_int (k : IntKind) (z : Int) : scalB (.int k z) = true := nr rfl
theorem scalB_str (s : List UInt8) : scalB (.str s) = true := nr rfl
theorem scalB_list (r : List (List VV)) : scalB (.list .s r) = true := nr rfl
theorem ldTs_nil : ldTs [] = [] := nr rfl
theorem ldTs_ld (d : Option Nat) (g : Option (Nat × Bool)) (a : Bool) (n k : Nat) (l : List LOper) : ldTs (⟨d,g,.load false a n (.t k)⟩ :: l) = k :: ldTs l := nr rfl
theorem ldTs_fa (d : Nat) (g : Option (Nat × Bool)) (o n : Nat) (l : List LOper) : ldTs (⟨some d,g,.fieldAddr o (.t n)⟩ :: l) = if (ldTs l).contains d = true then n :: ldTs l else ldTs l := by
  rw [ldTs]; simp only [Option.toList,List.all_cons,List.all_nil,Bool.and_true]
theorem ldTs_skip (d : Option Nat) (g : Option (Nat × Bool)) {op : LOp} (hx : rootX op = none) (l : List LOper) : ldTs (⟨d,g,op⟩ :: l) = ldTs l := by
  cases op <;> simp only [rootX] at hx <;> first | rfl | (cases hx; done) | skip
  rename_i m a n x
  cases m
  · cases hx
  · rfl
theorem rootsV_nil (L : List Nat) : rootsV L env [] = [] := nr rfl
theorem rootsV_fa (L : List Nat) (d : Nat) (g : Option (Nat × Bool)) (o : Nat) (x : X) (l : List LOper) : rootsV L env (⟨some d,g,.fieldAddr o x⟩ :: l) = if L.contains d = true then consP (vr env x) (rootsV L env l) else rootsV L env l := by
  rw [rootsV]; simp only [Option.toList,List.all_cons,List.all_nil,Bool.and_true]
theorem rootsV_ld (L : List Nat) (d : Option Nat) (g : Option (Nat × Bool)) (a : Bool) (n : Nat) (x : X) (l : List LOper) : rootsV L env (⟨d,g,.load false a n x⟩ :: l) = consP (vr env x) (rootsV L env l) := nr rfl
theorem rootsV_skip (L : List Nat) (d : Option Nat) (g : Option (Nat × Bool)) {op : LOp} (hx : rootX op = none) (l : List LOper) : rootsV L env (⟨d,g,op⟩ :: l) = rootsV L env l := by
  cases op <;> simp only [rootX] at hx <;> first | rfl | (cases hx; done) | skip
  rename_i m a n x
  cases m
  · cases hx
  · rfl
theorem okLd_skip (wl : List Nat) {op : LOp} (hx : ldX op = none) : okLd wl env op = True := by
  unfold okLd; rw [hx]; rfl
theorem okLd_ld (wl : List Nat) (a : Bool) (n : Nat) (x : X) : okLd wl env (.load false a n x) = okP wl (vr env x) := by
  unfold okLd; simp only [ldX,Option.bind_some]; cases vr env x <;> rfl
theorem codeVL_seq (a b : LCode) : codeVL cf lo (.seq a b) env h = (codeVL cf lo a env h).bind (thenV (codeVL cf lo b)) := by
  rw [codeVL]
  cases codeVL cf lo a env h with
  | none => rfl
  | some r => obtain ⟨o,e,h1⟩ := r; cases o <;> rfl
theorem codeVL_cond (c : X) (a b : LCode) : codeVL cf lo (.cond c a b) env h = match vr env c with
    | .bool t => if t = true then codeVL cf lo a env h else codeVL cf lo b env h
    | _ => none := by rw [codeVL]; rfl
theorem codeVL_block (id : Nat) (c : LCode) : codeVL cf lo (.block id c) env h = (codeVL cf lo c env h).bind (blockV id) := by
  rw [codeVL]
  cases codeVL cf lo c env h with
  | none => rfl
  | some r => obtain ⟨o,e,h1⟩ := r; cases o <;> rfl
noncomputable def loopV (cf : VCall) (lo : Nat) (keep : List Nat) (c : LCode) (env : VEnv) (h : VHeap) : Option (Out × VEnv × VHeap) := iterVL keep (fun env h => codeVL cf lo c env h) env h
theorem iterVL_eq (keep : List Nat) (b : VEnv → VHeap → Option (Out × VEnv × VHeap)) (env : VEnv) (h : VHeap) : iterVL keep b env h = (b (keepV keep env) h).bind (thenV fun env' h' => iterVL keep b (keepV keep env') (trim h.length (keepV keep env') h')) := by
  have none_of : (∀ r,iterVL keep b env h ≠ some r) → iterVL keep b env h = none := fun hn => by
    cases hx : iterVL keep b env h with
    | none => rfl
    | some r => exact absurd hx (hn r)
  cases hb : b (keepV keep env) h with
  | none =>
    refine none_of fun r hr => ?_
    obtain ⟨k,hk⟩ := iterVL_some.1 hr
    cases k with
    | zero => cases hk
    | succ k => simp only [iterV,hb] at hk; cases hk
  | some x =>
    obtain ⟨o,e,h1⟩ := x
    have stop : (o = .norm → False) → iterVL keep b env h = some (o,e,h1) := fun ho => by
      refine iterVL_some.2 ⟨1,?_⟩
      simp only [iterV,hb]
      cases o <;> first | exact absurd rfl ho | rfl
    cases o with
    | norm =>
      simp only [Option.bind_some,thenV]
      have fwd : ∀ r,iterVL keep b env h = some r ↔ iterVL keep b (keepV keep e) (trim h.length (keepV keep e) h1) = some r := by
        intro r
        rw [iterVL_some,iterVL_some]
        constructor
        · intro ⟨k,hk⟩
          cases k with
          | zero => cases hk
          | succ k => simp only [iterV,hb] at hk; exact ⟨k,hk⟩
        · intro ⟨k,hk⟩
          exact ⟨k + 1,by simp only [iterV,hb]; exact hk⟩
      cases hx : iterVL keep b (keepV keep e) (trim h.length (keepV keep e) h1) with
      | none => exact none_of fun r hr => by rw [(fwd r).1 hr] at hx; cases hx
      | some r => exact (fwd r).2 hx
    | exit j => simp only [Option.bind_some,thenV]; exact stop (fun h => by cases h)
    | ret => simp only [Option.bind_some,thenV]; exact stop (fun h => by cases h)
theorem keepV_keepV (keep : List Nat) (env : VEnv) : keepV keep (keepV keep env) = keepV keep env := by
  unfold keepV
  apply List.ext_getElem?
  intro i
  simp only [List.getElem?_mapIdx,Option.map_map]
  congr 1
  funext v
  simp only [Function.comp]
  split <;> simp_all
theorem loopV_eq (keep : List Nat) (c : LCode) : loopV cf lo keep c env h = (codeVL cf lo c (keepV keep env) h).bind (thenV fun env' h' => loopV cf lo keep c (keepV keep env') (trim h.length (keepV keep env') h')) := by
  unfold loopV
  rw [iterVL_eq]
theorem codeVL_loop (keep : List Nat) (c : LCode) : codeVL cf lo (.loop keep c) env h = loopV cf lo keep c (keepV keep env) h := by
  have h1 : loopV cf lo keep c (keepV keep env) h = loopV cf lo keep c env h := by rw [loopV_eq,keepV_keepV,← loopV_eq]
  rw [h1,codeVL]; rfl
def keepFrom (keep : List Nat) : Nat → VEnv → VEnv
  | _,[] => []
  | i,v :: r => (if keep.contains i then v else .undef) :: keepFrom keep (i + 1) r
theorem keepV_from (keep : List Nat) (env : VEnv) : keepV keep env = keepFrom keep 0 env := by
  have key : ∀ (env : VEnv) (i : Nat),(env.mapIdx fun j v => if keep.contains (j + i) then v else .undef) = keepFrom keep i env := by
    intro env
    induction env with
    | nil => intro i; rfl
    | cons v r ih =>
      intro i
      rw [List.mapIdx_cons]
      simp only [keepFrom,Nat.zero_add]
      congr 1
      rw [← ih (i + 1)]
      congr 1
      funext j v
      rw [show j + 1 + i = j + (i + 1) by omega]
  exact key env 0

/-- A loop that counts up to n,and may leave early. -/
theorem loop_up {keep : List Nat} {c : LCode} {Q : Out × VEnv × VHeap → Prop} (I : Nat → VEnv → VHeap → Prop) (n : Nat)
    (step : ∀ i env h,i < n → I i env h → Sat (codeVL cf lo c env h) fun r => match r with
      | (.norm,env',h') => I (i + 1) (keepV keep env') (trim h.length (keepV keep env') h')
      | (o,env',h') => Q (o,env',h'))
    (last : ∀ env h,I n env h → Sat (codeVL cf lo c env h) fun r => match r with
      | (.norm,_,_) => False
      | (o,env',h') => Q (o,env',h'))
    {i : Nat} (hi : i ≤ n) (h0 : I i (keepV keep env) h) : Sat (loopV cf lo keep c env h) Q := by
  obtain ⟨d,hd⟩ : ∃ d,n = i + d := ⟨n - i,by omega⟩
  induction d generalizing i env h with
  | zero =>
    obtain rfl : n = i := by omega
    rw [loopV_eq]
    refine (last _ _ h0).bind ?_
    rintro ⟨o,e,h1⟩ hr
    cases o with
    | norm => cases hr
    | exit j => exact ⟨_,rfl,hr⟩
    | ret => exact ⟨_,rfl,hr⟩
  | succ d ih =>
    rw [loopV_eq]
    refine (step i _ _ (by omega) h0).bind ?_
    rintro ⟨o,e,h1⟩ hr
    cases o with
    | norm => exact ih (i := i + 1) (by omega) (by rw [keepV_keepV]; exact hr) (by omega)
    | exit j => exact ⟨_,rfl,hr⟩
    | ret => exact ⟨_,rfl,hr⟩
mutual
/-- Is it as an argument is? -/
def VV.val : VV → Bool
  | .undef => true
  | .bool _ | .int _ _ | .str _ | .cptr _ _ | .nilptr | .nilmap | .nilfunc | .nilif => true
  | .list .s _ => true
  | .func _ cs => valL cs
  | .agg cs => valL cs
  | .tup cs => valL cs
  | _ => false
def valL : List VV → Bool
  | [] => true
  | v :: r => v.val && valL r
end
mutual
theorem val_low {k : Nat} : ∀ v : VV,v.val = true → v.low k = true
  | .undef,_ | .bool _,_ | .int _ _,_ | .str _,_ | .cptr _ _,_ | .nilptr,_ | .nilmap,_ | .nilfunc,_ | .nilif,_ => rfl
  | .list .s _,_ => rfl
  | .list .f _,h | .list .o _,h => by simp [VV.val] at h
  | .func _ cs,h => by simp only [VV.val] at h; simp only [VV.low]; exact valL_low cs h
  | .agg cs,h => by simp only [VV.val] at h; simp only [VV.low]; exact valL_low cs h
  | .tup cs,h => by simp only [VV.val] at h; simp only [VV.low]; exact valL_low cs h
  | .ptr _ _,h | .hs _ _ _ _,h | .map _,h | .iface _ _,h => by simp [VV.val] at h
theorem valL_low {k : Nat} : ∀ vs : List VV,valL vs = true → lowL k vs = true
  | [],_ => rfl
  | v :: r,h => by simp only [valL,Bool.and_eq_true] at h; simp only [lowL,val_low v h.1,valL_low r h.2,Bool.and_self]
end
mutual
theorem val_snap {h : VHeap} : ∀ v : VV,v.val = true → snap h v = some v
  | .undef,_ | .bool _,_ | .int _ _,_ | .str _,_ | .cptr _ _,_ | .nilptr,_ | .nilmap,_ | .nilfunc,_ | .nilif,_ => by simp only [snap]
  | .list .s _,_ => by simp only [snap]
  | .list .f _,h | .list .o _,h => by simp [VV.val] at h
  | .func _ cs,_ => by simp only [snap]
  | .agg cs,h => by simp only [VV.val] at h; simp only [snap,valL_snap cs h]
  | .tup cs,h => by simp only [VV.val] at h; simp only [snap,valL_snap cs h]
  | .ptr _ _,h | .hs _ _ _ _,h | .map _,h | .iface _ _,h => by simp [VV.val] at h
theorem valL_snap {h : VHeap} : ∀ vs : List VV,valL vs = true → snapL h vs = some vs
  | [],_ => by simp only [snapL]
  | v :: r,h => by simp only [valL,Bool.and_eq_true] at h; simp only [snapL,val_snap v h.1,valL_snap r h.2]
end
mutual
theorem val_noHs : ∀ v : VV,v.val = true → noHs v = true
  | .undef,_ | .bool _,_ | .int _ _,_ | .str _,_ | .cptr _ _,_ | .nilptr,_ | .nilmap,_ | .nilfunc,_ | .nilif,_ => by simp only [noHs]
  | .list _ _,_ | .func _ _,_ | .ptr _ _,_ | .map _,_ | .iface _ _,_ => by simp only [noHs]
  | .agg cs,h => by simp only [VV.val] at h; simp only [noHs,valL_noHs cs h]
  | .tup cs,h => by simp only [VV.val] at h; simp only [noHs,valL_noHs cs h]
  | .hs _ _ _ _,h => by simp [VV.val] at h
theorem valL_noHs : ∀ vs : List VV,valL vs = true → noHsL vs = true
  | [],_ => rfl
  | v :: r,h => by simp only [valL,Bool.and_eq_true] at h; simp only [noHsL,val_noHs v h.1,valL_noHs r h.2,Bool.and_self]
end
mutual
theorem val_nrm : ∀ v : VV,v.val = true → nrm v = v
  | .undef,_ | .bool _,_ | .int _ _,_ | .str _,_ | .cptr _ _,_ | .nilptr,_ | .nilmap,_ | .nilfunc,_ | .nilif,_ | .func _ _,_ | .ptr _ _,_ | .map _,_ | .iface _ _,_ | .hs _ _ _ _,_ => by simp only [nrm]
  | .list .s _,_ => by simp only [nrm]
  | .list .f _,h | .list .o _,h => by simp [VV.val] at h
  | .agg cs,h => by simp only [VV.val] at h; simp only [nrm,valL_nrm cs h]
  | .tup cs,h => by simp only [VV.val] at h; simp only [nrm,valL_nrm cs h]
theorem valL_nrm : ∀ vs : List VV,valL vs = true → nrmL vs = vs
  | [],_ => rfl
  | v :: r,h => by simp only [valL,Bool.and_eq_true] at h; simp only [nrmL,val_nrm v h.1,valL_nrm r h.2]
end

theorem bodyVL_eq {f : VFunc} {args : List VV} (ha : args.length = f.fn.nargs) : bodyVL cf lo f args h = (codeVL cf lo f.fn.body (args ++ List.replicate (f.fn.ntmps - f.fn.nargs) (.tup [])) h).bind (endV f h.length) := by
  unfold bodyVL; rw [if_pos ha]

/-- A function of values. -/
theorem call_val {p : VProg} {f : FuncId} {fn : VFunc} {args : List VV} {P : VV → Prop} (hp : p f = some fn) (hpu : fn.pure = true) (hraw : fn.raw = false) (hv : valL args = true) (ha : args.length = fn.fn.nargs)
    (hE : Sat ((codeVL (callVL p) 0 fn.fn.body (args ++ List.replicate (fn.fn.ntmps - fn.fn.nargs) (.tup [])) []).bind (endV fn 0)) fun r => P r.1) : ∃ v,P v ∧ ∀ lo h,callVL p lo f args h = some (v,h) := by
  obtain ⟨⟨v,h1⟩,hr,hP⟩ := hE
  refine ⟨v,hP,fun lo h => callVL_of ?_⟩
  simp only [callW,hp,hpu,hraw,Bool.not_false,and_self,if_true,valL_snap args hv,valL_low args hv]
  rw [bodyVL_eq ha]
  simp only [List.length_nil]
  rw [hr]
  simp only [valL_noHs args hv,true_or,if_true]
theorem call_valE {p : VProg} {f : FuncId} {fn : VFunc} {args : List VV} {v : VV} (hp : p f = some fn) (hpu : fn.pure = true) (hraw : fn.raw = false) (hv : valL args = true) (ha : args.length = fn.fn.nargs)
    (hE : Sat ((codeVL (callVL p) 0 fn.fn.body (args ++ List.replicate (fn.fn.ntmps - fn.fn.nargs) (.tup [])) []).bind (endV fn 0)) fun r => r.1 = v) (lo : Nat) (h : VHeap) : callVL p lo f args h = some (v,h) := by
  obtain ⟨w,rfl,hw⟩ := call_val (P := fun w => w = v) hp hpu hraw hv ha hE
  exact hw lo h
/-- A function that changes blocks. -/
theorem call_body {p : VProg} {f : FuncId} {fn : VFunc} {args : List VV} {P : VV × VHeap → Prop} {lo : Nat} {h : VHeap} (hp : p f = some fn) (hpu : fn.pure = false ∨ fn.raw = true) (ha : args.length = fn.fn.nargs)
    (hE : Sat ((codeVL (callVL p) lo fn.fn.body (nrmL args ++ List.replicate (fn.fn.ntmps - fn.fn.nargs) (.tup [])) h).bind (endV fn h.length)) P) : Sat (callVL p lo f args h) P := by
  obtain ⟨r,hr,hP⟩ := hE
  refine ⟨r,callVL_of ?_,hP⟩
  have : ¬ (fn.pure = true ∧ (!fn.raw) = true) := by rcases hpu with h | h <;> simp [h]
  simp only [callW,hp,if_neg this]
  rw [bodyVL_eq (by rw [nrmL_length]; exact ha)]
  exact hr
end Vg
namespace Vg
open Go Lg
theorem endV_norm (f : VFunc) (base : Nat) (env : VEnv) (h : VHeap) : endV f base (.norm,env,h) = (ressV env h f.fn.results).bind fun vs => backV f base (oneV vs) h := by
  simp only [endV]; cases ressV env h f.fn.results <;> rfl
theorem endV_ret (f : VFunc) (base : Nat) (env : VEnv) (h : VHeap) : endV f base (.ret,env,h) = (ressV env h f.fn.results).bind fun vs => backV f base (oneV vs) h := by
  simp only [endV]; cases ressV env h f.fn.results <;> rfl
theorem ite_bind {α β : Type} (c : Prop) [Decidable c] (x y : Option α) (f : α → Option β) : (if c then x else y).bind f = if c then x.bind f else y.bind f := by split <;> rfl
theorem int_beq (a b : Int) : (a == b) = decide (a = b) := by by_cases h : a = b <;> simp [h]
theorem int_bne (a b : Int) : (a != b) = !decide (a = b) := by by_cases h : a = b <;> simp [h]
theorem nat_beq (a b : Nat) : (a == b) = decide (a = b) := by by_cases h : a = b <;> simp [h]
theorem bool_beq_true (b : Bool) : (b == true) = b := by cases b <;> rfl
theorem bool_beq_false (b : Bool) : (b == false) = !b := by cases b <;> rfl
theorem ite_boolV (c : Prop) [Decidable c] (a b : Bool) : (if c then VV.bool a else VV.bool b) = VV.bool (if c then a else b) := by split <;> rfl
theorem cast_zero : ((0 : Nat) : Int) = 0 := rfl
theorem cast_one : ((1 : Nat) : Int) = 1 := rfl
theorem wrap_id {n : Int} (h0 : -9223372036854775808 ≤ n) (h1 : n < 9223372036854775808) : IntKind.i64.wrap n = n := by
  rw [IntKind.wrap_i64]; omega
theorem wrap_succ {i : Nat} (h : i < 4611686018427387904) : IntKind.i64.wrap ((i : Int) + 1) = ((i + 1 : Nat) : Int) := by rw [wrap_id (by omega) (by omega)]; rfl
theorem get_some {α : Type} {xs : List α} {i : Nat} (h : i < xs.length) : ∃ x,xs[i]? = some x := ⟨_,List.getElem?_eq_getElem h⟩
theorem mm_max (k k' : IntKind) (a b : Int) : mmE true (.int k a) [.int k' b] = some (.int k (max a b)) := by
  simp only [mmE,if_true]; congr 2; omega
theorem mm_min (k k' : IntKind) (a b : Int) : mmE false (.int k a) [.int k' b] = some (.int k (min a b)) := by
  simp only [mmE,Bool.false_eq_true,if_false]; congr 2; omega
/-- A list's rows,one by one. -/
theorem fz_list {h : VHeap} {base : Nat} {m : LMode} {r : List (List VV)} : fz h base (.list m r) = some (.list .s r) := nr rfl
theorem fz_int {h : VHeap} {base : Nat} {k : IntKind} {n : Int} : fz h base (.int k n) = some (.int k n) := nr rfl
theorem fz_bool {h : VHeap} {base : Nat} {b : Bool} : fz h base (.bool b) = some (.bool b) := nr rfl
theorem fz_str {h : VHeap} {base : Nat} {s : List UInt8} : fz h base (.str s) = some (.str s) := nr rfl
theorem mapM_cons' {f : VV → Option VV} {v : VV} {r : List VV} : (v :: r).mapM f = (f v).bind fun a => (r.mapM f).bind fun b => some (a :: b) := by
  rw [List.mapM_cons]; rfl
theorem mapM_nil' {f : VV → Option VV} : ([] : List VV).mapM f = some [] := rfl
theorem fzN_tup {h : VHeap} {base d : Nat} {cs : List VV} : fzN h base (d + 1) (.tup cs) = (cs.mapM (fzN h base d)).bind fun cs => some (.tup cs) := by
  simp only [fzN]; cases cs.mapM (fzN h base d) <;> rfl
theorem fzN_agg {h : VHeap} {base d : Nat} {cs : List VV} : fzN h base (d + 1) (.agg cs) = (cs.mapM (fzN h base d)).bind fun cs => some (.agg cs) := by
  simp only [fzN]; cases cs.mapM (fzN h base d) <;> rfl
theorem fzN_list {h : VHeap} {base d : Nat} {m : LMode} {r : List (List VV)} : fzN h base (d + 1) (.list m r) = some (.list .s r) := nr rfl
theorem fzN_int {h : VHeap} {base d : Nat} {k : IntKind} {n : Int} : fzN h base (d + 1) (.int k n) = some (.int k n) := nr rfl
theorem fzN_bool {h : VHeap} {base d : Nat} {b : Bool} : fzN h base (d + 1) (.bool b) = some (.bool b) := nr rfl
theorem fzN_str {h : VHeap} {base d : Nat} {s : List UInt8} : fzN h base (d + 1) (.str s) = some (.str s) := nr rfl
theorem fzN_cptr {h : VHeap} {base d : Nat} {cs : List VV} {off : Nat} : fzN h base (d + 1) (.cptr cs off) = some (.cptr cs off) := nr rfl
theorem fzN_nilptr {h : VHeap} {base d : Nat} : fzN h base (d + 1) .nilptr = some .nilptr := nr rfl
theorem fz_tup {h : VHeap} {base : Nat} {cs : List VV} : fz h base (.tup cs) = (cs.mapM (fzN h base 5)).bind fun cs => some (.tup cs) := fzN_tup
theorem fz_agg {h : VHeap} {base : Nat} {cs : List VV} : fz h base (.agg cs) = (cs.mapM (fzN h base 5)).bind fun cs => some (.agg cs) := fzN_agg
theorem vs_c (env : VEnv) (v : LV) : vs env (.c v) = ofLV v := by
  unfold vs vr
  have := ofLV_ne v
  unfold VV.sh
  split
  · rename_i e; exact absurd e (this _)
  · rfl
theorem vs_t (env : VEnv) (n : Nat) : vs env (.t n) = (env.getD n .undef).sh := rfl
end Vg
namespace Vg
open Go Lg
theorem all_len {α : Type} {F : α → List VV} {es : Nat} (hF : ∀ x,(F x).length = es) (xs : List α) : (xs.map F).all (fun x => decide (x.length = es)) = true := by
  rw [List.all_eq_true]; intro y hy; obtain ⟨x,_,rfl⟩ := List.mem_map.1 hy; simp [hF x]
theorem set_same {α : Type} {h : List α} {s : Nat} {b : α} (hs : h[s]? = some b) : h.set s b = h := by
  obtain ⟨hlt,rfl⟩ := List.getElem?_eq_some_iff.1 hs
  exact List.set_getElem_self hlt
theorem lt_of_some {α : Type} {h : List α} {s : Nat} {b : α} (hs : h[s]? = some b) : s < h.length := lt_of_getElem? hs
theorem take_map_len {α β : Type} (F : α → β) (xs : List α) : (xs.map F).take xs.length = xs.map F := List.take_of_length_le (by simp)
theorem take_len {α : Type} (xs : List α) : xs.take xs.length = xs := List.take_of_length_le (Nat.le_refl _)
theorem take_set_len {α : Type} (h : List α) (s : Nat) (b : α) : (h.set s b).take h.length = h.set s b := List.take_of_length_le (by simp)
theorem succ_ne_zero (n : Nat) : (((n + 1 : Nat) : Int) = 0) = False := by simp only [eq_iff_iff,iff_false]; omega
theorem succ_pos' (n : Nat) : ((0 : Int) < ((n + 1 : Nat) : Int)) = True := by simp only [eq_iff_iff,iff_true]; omega
theorem get_map {α : Type} {F : α → List VV} {xs : List α} {i : Nat} {x : α} (h : xs[i]? = some x) : (xs.map F)[i]? = some (F x) := by rw [List.getElem?_map,h]; rfl
end Vg
namespace Vg
open Go Lg
theorem sh_undef  : VV.sh (.undef) = .undef := rfl
theorem ow_undef  : VV.ow (.undef) = .undef := rfl
theorem cells_undef  : VV.cells (.undef) = [.undef] := rfl
theorem single_undef  : VV.single (.undef) = false := rfl
theorem stV_undef  : stV (.undef) = [.undef] := rfl
theorem sh_bool (b : Bool) : VV.sh (.bool b) = .bool b := rfl
theorem ow_bool (b : Bool) : VV.ow (.bool b) = .bool b := rfl
theorem cells_bool (b : Bool) : VV.cells (.bool b) = [.bool b] := rfl
theorem single_bool (b : Bool) : VV.single (.bool b) = true := rfl
theorem sc_bool (b : Bool) : VV.sc (.bool b) = .bool b := rfl
theorem stV_bool (b : Bool) : stV (.bool b) = [.bool b] := rfl
theorem cmpV_bool (b : Bool) : cmpV (.bool b) = .bool b := rfl
theorem sh_int (k : IntKind) (n : Int) : VV.sh (.int k n) = .int k n := rfl
theorem ow_int (k : IntKind) (n : Int) : VV.ow (.int k n) = .int k n := rfl
theorem cells_int (k : IntKind) (n : Int) : VV.cells (.int k n) = [.int k n] := rfl
theorem single_int (k : IntKind) (n : Int) : VV.single (.int k n) = true := rfl
theorem sc_int (k : IntKind) (n : Int) : VV.sc (.int k n) = .int k n := rfl
theorem stV_int (k : IntKind) (n : Int) : stV (.int k n) = [.int k n] := rfl
theorem cmpV_int (k : IntKind) (n : Int) : cmpV (.int k n) = .int k n := rfl
theorem sh_str (s : List UInt8) : VV.sh (.str s) = .str s := rfl
theorem ow_str (s : List UInt8) : VV.ow (.str s) = .str s := rfl
theorem cells_str (s : List UInt8) : VV.cells (.str s) = [.str s] := rfl
theorem single_str (s : List UInt8) : VV.single (.str s) = true := rfl
theorem sc_str (s : List UInt8) : VV.sc (.str s) = .str s := rfl
theorem stV_str (s : List UInt8) : stV (.str s) = [.str s] := rfl
theorem cmpV_str (s : List UInt8) : cmpV (.str s) = .str s := rfl
theorem sh_ptr (n off : Nat) : VV.sh (.ptr n off) = .ptr n off := rfl
theorem ow_ptr (n off : Nat) : VV.ow (.ptr n off) = .ptr n off := rfl
theorem cells_ptr (n off : Nat) : VV.cells (.ptr n off) = [.ptr n off] := rfl
theorem single_ptr (n off : Nat) : VV.single (.ptr n off) = true := rfl
theorem stV_ptr (n off : Nat) : stV (.ptr n off) = [.ptr n off] := rfl
theorem cmpV_ptr (n off : Nat) : cmpV (.ptr n off) = .ptr 0 0 := rfl
theorem sh_cptr (cs : List VV) (off : Nat) : VV.sh (.cptr cs off) = .cptr cs off := rfl
theorem ow_cptr (cs : List VV) (off : Nat) : VV.ow (.cptr cs off) = .cptr cs off := rfl
theorem cells_cptr (cs : List VV) (off : Nat) : VV.cells (.cptr cs off) = [.cptr cs off] := rfl
theorem single_cptr (cs : List VV) (off : Nat) : VV.single (.cptr cs off) = true := rfl
theorem stV_cptr (cs : List VV) (off : Nat) : stV (.cptr cs off) = [.cptr cs off] := rfl
theorem cmpV_cptr (cs : List VV) (off : Nat) : cmpV (.cptr cs off) = .ptr 0 0 := rfl
theorem sh_nilptr  : VV.sh (.nilptr) = .nilptr := rfl
theorem ow_nilptr  : VV.ow (.nilptr) = .nilptr := rfl
theorem cells_nilptr  : VV.cells (.nilptr) = [.nilptr] := rfl
theorem single_nilptr  : VV.single (.nilptr) = true := rfl
theorem stV_nilptr  : stV (.nilptr) = [.nilptr] := rfl
theorem cmpV_nilptr  : cmpV (.nilptr) = .nilptr := rfl
theorem sh_lists (r : List (List VV)) : VV.sh (.list .s r) = .list .s r := rfl
theorem ow_lists (r : List (List VV)) : VV.ow (.list .s r) = .list .s r := rfl
theorem cells_lists (r : List (List VV)) : VV.cells (.list .s r) = [.list .s r] := rfl
theorem single_lists (r : List (List VV)) : VV.single (.list .s r) = true := rfl
theorem stV_lists (r : List (List VV)) : stV (.list .s r) = [.list .s r] := rfl
theorem sh_listf (r : List (List VV)) : VV.sh (.list .f r) = .list .f r := rfl
theorem ow_listf (r : List (List VV)) : VV.ow (.list .f r) = .list .o r := rfl
theorem cells_listf (r : List (List VV)) : VV.cells (.list .f r) = [.list .f r] := rfl
theorem single_listf (r : List (List VV)) : VV.single (.list .f r) = true := rfl
theorem stV_listf (r : List (List VV)) : stV (.list .f r) = [.list .o r] := rfl
theorem sh_listo (r : List (List VV)) : VV.sh (.list .o r) = .list .s r := rfl
theorem ow_listo (r : List (List VV)) : VV.ow (.list .o r) = .list .o r := rfl
theorem cells_listo (r : List (List VV)) : VV.cells (.list .o r) = [.list .o r] := rfl
theorem single_listo (r : List (List VV)) : VV.single (.list .o r) = true := rfl
theorem stV_listo (r : List (List VV)) : stV (.list .o r) = [.list .o r] := rfl
theorem sh_hs (n off len es : Nat) : VV.sh (.hs n off len es) = .hs n off len es := rfl
theorem ow_hs (n off len es : Nat) : VV.ow (.hs n off len es) = .hs n off len es := rfl
theorem cells_hs (n off len es : Nat) : VV.cells (.hs n off len es) = [.hs n off len es] := rfl
theorem single_hs (n off len es : Nat) : VV.single (.hs n off len es) = true := rfl
theorem stV_hs (n off len es : Nat) : stV (.hs n off len es) = [.hs n off len es] := rfl
theorem sh_map (n : Nat) : VV.sh (.map n) = .map n := rfl
theorem ow_map (n : Nat) : VV.ow (.map n) = .map n := rfl
theorem cells_map (n : Nat) : VV.cells (.map n) = [.map n] := rfl
theorem single_map (n : Nat) : VV.single (.map n) = true := rfl
theorem stV_map (n : Nat) : stV (.map n) = [.map n] := rfl
theorem cmpV_map (n : Nat) : cmpV (.map n) = .map 0 := rfl
theorem sh_nilmap  : VV.sh (.nilmap) = .nilmap := rfl
theorem ow_nilmap  : VV.ow (.nilmap) = .nilmap := rfl
theorem cells_nilmap  : VV.cells (.nilmap) = [.nilmap] := rfl
theorem single_nilmap  : VV.single (.nilmap) = true := rfl
theorem stV_nilmap  : stV (.nilmap) = [.nilmap] := rfl
theorem cmpV_nilmap  : cmpV (.nilmap) = .nilmap := rfl
theorem sh_func (f : FuncId) (cs : List VV) : VV.sh (.func f cs) = .func f cs := rfl
theorem ow_func (f : FuncId) (cs : List VV) : VV.ow (.func f cs) = .func f cs := rfl
theorem cells_func (f : FuncId) (cs : List VV) : VV.cells (.func f cs) = [.func f cs] := rfl
theorem single_func (f : FuncId) (cs : List VV) : VV.single (.func f cs) = true := rfl
theorem stV_func (f : FuncId) (cs : List VV) : stV (.func f cs) = [.func f cs] := rfl
theorem cmpV_func (f : FuncId) (cs : List VV) : cmpV (.func f cs) = .func 0 [] := rfl
theorem sh_nilfunc  : VV.sh (.nilfunc) = .nilfunc := rfl
theorem ow_nilfunc  : VV.ow (.nilfunc) = .nilfunc := rfl
theorem cells_nilfunc  : VV.cells (.nilfunc) = [.nilfunc] := rfl
theorem single_nilfunc  : VV.single (.nilfunc) = true := rfl
theorem stV_nilfunc  : stV (.nilfunc) = [.nilfunc] := rfl
theorem cmpV_nilfunc  : cmpV (.nilfunc) = .nilfunc := rfl
theorem sh_iface (t : TypeId) (v : VV) : VV.sh (.iface t v) = .iface t v := rfl
theorem ow_iface (t : TypeId) (v : VV) : VV.ow (.iface t v) = .iface t v := rfl
theorem cells_iface (t : TypeId) (v : VV) : VV.cells (.iface t v) = [.iface t v] := rfl
theorem single_iface (t : TypeId) (v : VV) : VV.single (.iface t v) = true := rfl
theorem stV_iface (t : TypeId) (v : VV) : stV (.iface t v) = [.iface t v] := rfl
theorem cmpV_iface (t : TypeId) (v : VV) : cmpV (.iface t v) = .iface t .undef := rfl
theorem sh_nilif  : VV.sh (.nilif) = .nilif := rfl
theorem ow_nilif  : VV.ow (.nilif) = .nilif := rfl
theorem cells_nilif  : VV.cells (.nilif) = [.nilif] := rfl
theorem single_nilif  : VV.single (.nilif) = true := rfl
theorem stV_nilif  : stV (.nilif) = [.nilif] := rfl
theorem cmpV_nilif  : cmpV (.nilif) = .nilif := rfl
theorem sh_agg (cs : List VV) : VV.sh (.agg cs) = .agg cs := rfl
theorem ow_agg (cs : List VV) : VV.ow (.agg cs) = .agg cs := rfl
theorem cells_agg (cs : List VV) : VV.cells (.agg cs) = cs := rfl
theorem single_agg (cs : List VV) : VV.single (.agg cs) = false := rfl
theorem stV_agg (cs : List VV) : stV (.agg cs) = cs.map fun c => c.sh.ow := rfl
theorem cmpV_agg (cs : List VV) : cmpV (.agg cs) = .agg (cs.map VV.sc) := rfl
theorem sh_tup (vs : List VV) : VV.sh (.tup vs) = .tup vs := rfl
theorem ow_tup (vs : List VV) : VV.ow (.tup vs) = .tup vs := rfl
theorem cells_tup (vs : List VV) : VV.cells (.tup vs) = [.tup vs] := rfl
theorem single_tup (vs : List VV) : VV.single (.tup vs) = false := rfl
theorem stV_tup (vs : List VV) : stV (.tup vs) = [.tup vs] := rfl
theorem cmpV_cons (m : LMode) (x : List VV) (r : List (List VV)) : cmpV (.list m (x :: r)) = .slice 0 0 0 0 false := rfl
theorem guardV_bool (w b : Bool) : guardV w (.bool b) = some (b == w) := nr rfl
theorem guardV_tup (w : Bool) (vs : List VV) : guardV w (.tup vs) = some false := nr rfl
theorem nat_int (k : IntKind) (n : Int) : nat? (.int k n) = if 0 ≤ n then some n.toNat else none := rfl
end Vg
namespace Vg
open Go Lg
section
variable {cf : VCall} {lo : Nat} {env : VEnv} {h : VHeap}
theorem opV_mvF (x : X) : opV cf lo (.mv false x) env h = some (vs env x,h) := nr rfl
theorem opV_mvT (x : X) : opV cf lo (.mv true x) env h = some ((vr env x).ow,h) := nr rfl
theorem opV_mvs (x : X) : opV cf lo (.mvs x) env h = (match vr env x with
    | .str s => some (.str s,h)
    | _ => none) := nr (by rfl)
theorem opV_pick (c : X) (a : X) (b : X) : opV cf lo (.pick c a b) env h = (match vr env c with
    | .bool t => some (if t then vs env a else vs env b,h)
    | _ => none) := nr (by rfl)
theorem opV_alloc (zs : List LV) : opV cf lo (.alloc zs) env h = (some (.ptr h.length 0,h ++ [.cells true ((ofLVs zs).map VV.ow)])) := nr (by rfl)
theorem opV_box (x : X) : opV cf lo (.box x) env h = (let cs := (vs env x).cells
    if cs.all VV.single then some (.ptr h.length 0,h ++ [.cells true (cs.map fun c => c.sh.ow)]) else none) := nr (by rfl)
theorem opV_build (zs : List LV) (ps : List (Nat × Nat × X)) : opV cf lo (.build zs ps) env h = (match fillV env (ofLVs zs) ps with
    | some cs => some (.agg cs,h)
    | none => none) := nr (by rfl)
theorem opV_bslice (mt : Bool) (len : Nat) (es : Nat) (zs : List LV) (ps : List (Nat × Nat × X)) : opV cf lo (.bslice mt len es zs ps) env h = (match fillV env (ofLVs zs) ps with
    | some cs =>
      if mt then some (.hs h.length 0 len es,h ++ [.cells true (cs.map fun c => c.sh.ow)])
      else if lowL 0 cs ∧ cs.length = len * es then some (.list .f (chunk es len (nrmL cs)),h) else none
    | none => none) := nr (by rfl)
theorem opV_load (m : Bool) (ag : Bool) (n : Nat) (a : X) : opV cf lo (.load m ag n a) env h = (match vr env a with
    | .ptr b off => match h[b]? with
      | some (.cells rw cs) =>
        if ag then (if off + n ≤ cs.length then some (.agg (((cs.drop off).take n).map VV.sh),h) else none)
        else match cs[off]? with
          | some v => if m then (if rw ∧ lo ≤ b then some (v.ow,h.set b (.cells rw (cs.set off v.sh))) else none) else some (v.sh,h)
          | none => none
      | _ => none
    | .cptr cs off =>
      if ag then (if off + n ≤ cs.length then some (.agg ((cs.drop off).take n),h) else none)
      else match cs[off]? with
        | some v => some (v.sh,h)
        | none => none
    | _ => none) := nr (by rfl)
theorem opV_store (n : Nat) (a : X) (x : X) : opV cf lo (.store n a x) env h = (match vr env a with
    | .ptr b off => match h[b]? with
      | some (.cells rw cs) =>
        let vs := stV (vr env x)
        if rw ∧ lo ≤ b ∧ vs.length = n ∧ off + n ≤ cs.length ∧ vs.all VV.single then
          if lowL (b + 1) vs then some (.tup [],h.set b (.cells rw (vsplice cs off vs)))
          else match a with
            | .t _ => some (.tup [],h.set b .dead ++ [.cells rw (vsplice cs off vs)])
            | .c _ => none
        else none
      | _ => none
    | _ => none) := nr (by rfl)
theorem opV_nilchk (x : X) : opV cf lo (.nilchk x) env h = (match vr env x with
    | .ptr b off => some (.ptr b off,h)
    | .cptr cs off => some (.cptr cs off,h)
    | .func f caps => some (.func f caps,h)
    | _ => none) := nr (by rfl)
theorem opV_bin (op : BinOp) (x : X) (y : X) : opV cf lo (.bin op x y) env h = (match binE op (vr env x).sc (vr env y).sc with
    | some v => some (ofLV v,h)
    | none => none) := nr (by rfl)
theorem opV_eqv (ng : Bool) (k : EK) (x : X) (y : X) : opV cf lo (.eqv ng k x y) env h = (match eqE k (cmpX env x) (cmpX env y) with
    | some b => some (.bool (if ng then !b else b),h)
    | none => none) := nr (by rfl)
theorem opV_un (op : UnOp) (x : X) : opV cf lo (.un op x) env h = (match unE op (vr env x).sc with
    | some v => some (ofLV v,h)
    | none => none) := nr (by rfl)
theorem opV_conv (k : IntKind) (x : X) : opV cf lo (.conv k x) env h = (match vr env x with
    | .int _ n => some (.int k (k.wrap n),h)
    | _ => none) := nr (by rfl)
theorem opV_b2s (x : X) : opV cf lo (.b2s x) env h = (if isSl (vr env x) then match rowsOf 1 h (vr env x) with
    | some r => match bytesOf (r.flatten.map VV.sc) with
      | some l => some (.str l,h)
      | none => none
    | none => none
    else none) := nr (by rfl)
theorem opV_s2b (x : X) : opV cf lo (.s2b x) env h = (match vr env x with
    | .str s => some (.list .s (s.map fun b => [.int .u8 b.toNat]),h)
    | _ => none) := nr (by rfl)
theorem opV_slc (es : Nat) (x : X) (lo' : Option X) (hi : Option X) (mx : Option X) : opV cf lo (.slc es x lo' hi mx) env h = (match vr env x with
    | .str s => if es = 0 ∧ mx.isNone then match vbnds env s.length lo' hi with
        | some (l,e) => some (.str ((s.take e).drop l),h)
        | none => none
      else none
    | .list m r => if es ≠ 0 ∧ r.all (fun x => x.length == es) then match vbnds env r.length lo' hi with
        | some (l,e) => match mx with
          | none => some (.list (if m = .f ∧ e = r.length then .f else .s) ((r.take e).drop l),h)
          | some c => match nat? (vr env c) with
            | some c => if e ≤ c ∧ c ≤ r.length then some (.list (if e = c then .f else .s) ((r.take e).drop l),h) else none
            | none => none
        | none => none
      else none
    | .hs n off len es' => if es' = es ∧ es ≠ 0 ∧ mx.isNone then match vbnds env len lo' hi with
        | some (l,e) => some (.hs n (off + l * es) (e - l) es,h)
        | none => none
      else none
    | _ => none) := nr (by rfl)
theorem opV_slcA (len es : Nat) (x : X) (lo' : Option X) (hi : Option X) : opV cf lo (.slcA len es x lo' hi) env h = (match vr env x with
    | .ptr n off => match h[n]? with
      | some (.cells _ cs) => if off + len * es ≤ cs.length then match vbnds env len lo' hi with
          | some (l,e) => some (.hs n (off + l * es) (e - l) es,h)
          | none => none
        else none
      | _ => none
    | _ => none) := nr (by rfl)
theorem opV_fieldAddr (d : Nat) (x : X) : opV cf lo (.fieldAddr d x) env h = (match vr env x with
    | .ptr n off => some (.ptr n (off + d),h)
    | .cptr cs off => some (.cptr cs (off + d),h)
    | _ => none) := nr (by rfl)
theorem opV_field (ag : Bool) (off : Nat) (n : Nat) (x : X) : opV cf lo (.field ag off n x) env h = (match vr env x with
    | .agg cs => if ag then (if off + n ≤ cs.length then some (.agg ((cs.drop off).take n),h) else none)
      else match cs[off]? with
        | some v => some (v.sh,h)
        | none => none
    | _ => none) := nr (by rfl)
theorem opV_indexAddr (es : Nat) (x : X) (i : X) : opV cf lo (.indexAddr es x i) env h = (match nat? (vr env i) with
    | some j => match vr env x with
      | .list _ r => match r[j]? with
        | some row => if row.length = es then some (.cptr row 0,h) else none
        | none => none
      | .hs n off len es' => if es' = es ∧ j < len then some (.ptr n (off + j * es),h) else none
      | _ => none
    | none => none) := nr (by rfl)
theorem opV_indexAddrA (len : Nat) (es : Nat) (x : X) (i : X) : opV cf lo (.indexAddrA len es x i) env h = (match vr env x,nat? (vr env i) with
    | .ptr n off,some j => if j < len then some (.ptr n (off + j * es),h) else none
    | .cptr cs off,some j => if j < len then some (.cptr cs (off + j * es),h) else none
    | _,_ => none) := nr (by rfl)
theorem opV_index (x : X) (i : X) : opV cf lo (.index x i) env h = (match vr env x,nat? (vr env i) with
    | .str s,some j => match s[j]? with
      | some b => some (.int .u8 b.toNat,h)
      | none => none
    | _,_ => none) := nr (by rfl)
theorem opV_indexA (ag : Bool) (len : Nat) (es : Nat) (x : X) (i : X) : opV cf lo (.indexA ag len es x i) env h = (match vr env x,nat? (vr env i) with
    | .agg cs,some j => if j < len then
        if ag then (if j * es + es ≤ cs.length then some (.agg ((cs.drop (j * es)).take es),h) else none)
        else match cs[j * es]? with
          | some v => some (v.sh,h)
          | none => none
      else none
    | _,_ => none) := nr (by rfl)
theorem opV_extract (i : Nat) (x : X) : opV cf lo (.extract i x) env h = (match vr env x with
    | .tup vs => match vs[i]? with
      | some v => some (v.sh,h)
      | none => none
    | _ => none) := nr (by rfl)
theorem opV_lenS (x : X) : opV cf lo (.lenS x) env h = (match vr env x with
    | .str s => some (.int .i64 s.length,h)
    | _ => none) := nr (by rfl)
theorem opV_lenL (x : X) : opV cf lo (.lenL x) env h = (match vr env x with
    | .list _ r => some (.int .i64 r.length,h)
    | .hs _ _ len _ => some (.int .i64 len,h)
    | _ => none) := nr (by rfl)
theorem opV_lenM (x : X) : opV cf lo (.lenM x) env h = (match vr env x with
    | .nilmap => some (.int .i64 0,h)
    | .map n => match h[n]? with
      | some (.map es) => some (.int .i64 es.length,h)
      | _ => none
    | _ => none) := nr (by rfl)
theorem opV_lenC (n : Nat) : opV cf lo (.lenC n) env h = (some (.int .i64 n,h)) := nr (by rfl)
theorem opV_min2 (xs : List X) : opV cf lo (.min2 xs) env h = (match xs.map (fun x => (vr env x).sc) with
    | v :: r => match mmE false v r with
      | some v => some (ofLV v,h)
      | none => none
    | [] => none) := nr (by rfl)
theorem opV_max2 (xs : List X) : opV cf lo (.max2 xs) env h = (match xs.map (fun x => (vr env x).sc) with
    | v :: r => match mmE true v r with
      | some v => some (ofLV v,h)
      | none => none
    | [] => none) := nr (by rfl)
theorem opV_append (ap : Bool) (es : Nat) (bytes : Nat) (x : X) (y : X) : opV cf lo (.append ap es bytes x y) env h = (appendV ap lo es bytes (vr env x) (vr env y) h) := nr (by rfl)
theorem opV_copy (es : Nat) (x : X) (y : X) : opV cf lo (.copy es x y) env h = (match vr env x,rowsOf es h (vr env y) with
    | .hs n off len es',some new =>
      let m := min new.length len
      if es' = es then
        match h[n]? with
          | some (.cells rw cs) => if m = 0 then some (.int .i64 0,h)
            else if rw ∧ lo ≤ n ∧ off + len * es ≤ cs.length then some (.int .i64 m,h.set n (.cells rw (vsplice cs off ((new.take m).flatten.map fun c => c.sh.ow)))) else none
          | _ => none
      else none
    | _,_ => none) := nr (by rfl)
theorem opV_make (mt : Bool) (es : Nat) (bytes : Nat) (zs : List LV) (l : X) (c : X) : opV cf lo (.make mt es bytes zs l c) env h = (match vr env l,vr env c with
    | .int .i64 l,.int .i64 c =>
      if 0 ≤ l ∧ l = c ∧ c ≤ 281474976710656 ∧ bytes * c ≤ 281474976710656 then
        if mt = false then (if zs.length = es then some (.list .f (List.replicate l.toNat (nrmL (ofLVs zs))),h) else none) else some (.hs h.length 0 l.toNat es,h ++ [.cells true ((ofLVs (rows zs l.toNat)).map VV.ow)]) else none
    | _,_ => none) := nr (by rfl)
theorem opV_mkmap  : opV cf lo (.mkmap ) env h = (some (.map h.length,h ++ [.map []])) := nr (by rfl)
theorem opV_lookup (zero : LV) (ok : Bool) (m : X) (k : X) : opV cf lo (.lookup zero ok m k) env h = (if skey (vr env k) then match vr env m with
      | .nilmap => some (if ok then .tup [ofLV zero,.bool false] else ofLV zero,h)
      | .map n => match h[n]? with
        | some (.map es) => match findV (vr env k) es with
          | some (some v) => some (if ok then .tup [v,.bool true] else v.sh,h)
          | some none => some (if ok then .tup [ofLV zero,.bool false] else ofLV zero,h)
          | none => none
        | _ => none
      | _ => none
    else none) := nr (by rfl)
theorem opV_update (m : X) (k : X) (v : X) : opV cf lo (.update m k v) env h = (if skey (vr env k) then match vr env m with
      | .map n => match h[n]? with
        | some (.map es) => if lo ≤ n ∧ (vs env v).free then match updV (vr env k) (vs env v) es with
            | some es' => some (.tup [],h.set n (.map es'))
            | none => none
          else none
        | _ => none
      | _ => none
    else none) := nr (by rfl)
theorem opV_mkfunc (f : FuncId) (caps : List X) : opV cf lo (.mkfunc f caps) env h = (some (.func f (caps.map (vs env)),h)) := nr (by rfl)
theorem opV_call (pu : Bool) (f : FuncId) (args : List X) : opV cf lo (.call pu f args) env h = (if pu = true then
      (match cf 0 f (nrmL (args.map (vs env))) [] with
      | some (v,_) => if lowL 0 (nrmL (args.map (vs env))) ∧ v.low 0 then some (v,h) else none
      | none => none)
    else cf lo f (nrmL (args.map (vs env))) h) := nr (by rfl)
theorem opV_callv (f : X) (args : List X) : opV cf lo (.callv f args) env h = (match vr env f with
    | .func g caps => cf lo g (nrmL (args.map (vs env) ++ caps)) h
    | _ => none) := nr (by rfl)
theorem opV_ext (k : ExtK) (xs : List X) : opV cf lo (.ext k xs) env h = (match extE k (xs.map fun x => argV (vr env x)) with
    | some v => some (ofLV v,h)
    | none => none) := nr (by rfl)
theorem extE_index1 (s : List UInt8) (c : UInt8) : extE .index1 [.str s,.str [c]] = some (.int .i64 (Go.Lib.indexByte s c)) := nr rfl
theorem extE_count1 (s : List UInt8) (c : UInt8) : extE .count1 [.str s,.str [c]] = some (.int .i64 (s.count c : Nat)) := nr rfl
theorem extE_cmp (a b : List UInt8) : extE .cmp [.str a,.str b] = some (.int .i64 (Go.Lib.compareBytes a b)) := rfl
theorem extE_join (xs : List LV) (sep : List UInt8) : extE .join [.agg xs,.str sep] = match strsOf xs with
    | some l => if (sep.intercalate l).length + l.length ≤ 140737488355328 then some (.str (sep.intercalate l)) else none
    | none => none := nr rfl
theorem argV_str (s : List UInt8) : argV (.str s) = .str s := rfl
theorem argV_int (k : IntKind) (n : Int) : argV (.int k n) = .int k n := rfl
theorem argV_bool (b : Bool) : argV (.bool b) = .bool b := rfl
theorem argV_list (m : LMode) (r : List (List VV)) : argV (.list m r) = if r.all (fun x => x.length == 1) then .agg (r.flatten.map VV.sc) else .undef := nr rfl
theorem opV_rewr (k : RwK) (es : Nat) (g : FuncId) (x f : X) : opV cf lo (.rewr k es g x f) env h = (match vr env f with
    | .func g' [] => if g' = g then match vr env x with
        | .list _ [] => some (.tup [],h)
        | .hs n off len es' => if len = 0 then some (.tup [],h) else if es' = es then match h[n]? with
            | some (.cells rw cs) => if rw = true ∧ lo ≤ n ∧ off + len * es ≤ cs.length then match rwE k len (((cs.drop off).take (len * es)).map VV.sc) with
                | some out => if out.length = len * es ∧ out.all scLV = true then some (.tup [],h.set n (.cells rw (vsplice cs off (ofLVs out)))) else none
                | none => none
              else none
            | _ => none
          else none
        | _ => none
      else none
    | _ => none) := nr (by rfl)
theorem opV_concat (es bytes : Nat) (x : X) : opV cf lo (.concat es bytes x) env h = (match vr env x with
    | .list _ [[a],[b]] => match rowsOf es h a,rowsOf es h b with
      | some ra,some rb => if (ra.length + rb.length + 512) * bytes ≤ 140737488355328 then some (.list .s (ra ++ rb),h) else none
      | _,_ => none
    | _ => none) := nr (by rfl)
theorem opV_capL (x : X) : opV cf lo (.capL x) env h = (match vr env x with
    | .list .f r => some (.int .i64 r.length,h)
    | _ => none) := nr (by rfl)
theorem opV_stuck  : opV cf lo (.stuck ) env h = (none) := nr (by rfl)
theorem strip_mvF (x : X) : post (.mv false x) env h = env := rfl
theorem strip_mvT (n : Nat) : post (.mv true (.t n)) env h = env.set n (env.getD n .undef).sh := rfl
theorem strip_mvC (c : LV) : post (.mv true (.c c)) env h = env := rfl
theorem strip_mvs (x : X) : post (.mvs x) env h = env := rfl
theorem strip_pick (c : X) (a : X) (b : X) : post (.pick c a b) env h = env := rfl
theorem strip_alloc (zs : List LV) : post (.alloc zs) env h = env := rfl
theorem strip_box (x : X) : post (.box x) env h = env := rfl
theorem strip_build (zs : List LV) (ps : List (Nat × Nat × X)) : post (.build zs ps) env h = env := rfl
theorem strip_bslice (mt : Bool) (len : Nat) (es : Nat) (zs : List LV) (ps : List (Nat × Nat × X)) : post (.bslice mt len es zs ps) env h = env := rfl
theorem strip_load (m : Bool) (ag : Bool) (n : Nat) (a : X) : post (.load m ag n a) env h = env := rfl
theorem strip_storeT (k n : Nat) (a : X) : post (.store k a (.t n)) env h = mvF env h a (.t n) (env.set n (env.getD n .undef).sh) := rfl
theorem strip_storeC (k : Nat) (a : X) (c : LV) : post (.store k a (.c c)) env h = mvF env h a (.c c) env := rfl
theorem mvF_t (a : Nat) (x : X) (e : VEnv) : mvF env h (.t a) x e = (match env.getD a .undef with
    | .ptr b off => if lowL (b + 1) (stV (vr env x)) then e else e.set a (.ptr h.length off)
    | _ => e) := nr rfl
theorem mvF_c (c : LV) (x : X) (e : VEnv) : mvF env h (.c c) x e = e := nr rfl
theorem strip_nilchk (x : X) : post (.nilchk x) env h = env := rfl
theorem strip_bin (op : BinOp) (x : X) (y : X) : post (.bin op x y) env h = env := rfl
theorem strip_eqv (ng : Bool) (k : EK) (x : X) (y : X) : post (.eqv ng k x y) env h = env := rfl
theorem strip_un (op : UnOp) (x : X) : post (.un op x) env h = env := rfl
theorem strip_conv (k : IntKind) (x : X) : post (.conv k x) env h = env := rfl
theorem strip_b2s (x : X) : post (.b2s x) env h = env := rfl
theorem strip_s2b (x : X) : post (.s2b x) env h = env := rfl
theorem strip_slc (es : Nat) (x : X) (lo' : Option X) (hi : Option X) (mx : Option X) : post (.slc es x lo' hi mx) env h = env := rfl
theorem strip_slcA (len es : Nat) (x : X) (lo' : Option X) (hi : Option X) : post (.slcA len es x lo' hi) env h = env := rfl
theorem strip_fieldAddr (d : Nat) (x : X) : post (.fieldAddr d x) env h = env := rfl
theorem strip_field (ag : Bool) (off : Nat) (n : Nat) (x : X) : post (.field ag off n x) env h = env := rfl
theorem strip_indexAddr (es : Nat) (x : X) (i : X) : post (.indexAddr es x i) env h = env := rfl
theorem strip_indexAddrA (len : Nat) (es : Nat) (x : X) (i : X) : post (.indexAddrA len es x i) env h = env := rfl
theorem strip_index (x : X) (i : X) : post (.index x i) env h = env := rfl
theorem strip_indexA (ag : Bool) (len : Nat) (es : Nat) (x : X) (i : X) : post (.indexA ag len es x i) env h = env := rfl
theorem strip_extract (i : Nat) (x : X) : post (.extract i x) env h = env := rfl
theorem strip_lenS (x : X) : post (.lenS x) env h = env := rfl
theorem strip_lenL (x : X) : post (.lenL x) env h = env := rfl
theorem strip_lenM (x : X) : post (.lenM x) env h = env := rfl
theorem strip_lenC (n : Nat) : post (.lenC n) env h = env := rfl
theorem strip_min2 (xs : List X) : post (.min2 xs) env h = env := rfl
theorem strip_max2 (xs : List X) : post (.max2 xs) env h = env := rfl
theorem strip_appendT (ap : Bool) (es bytes n : Nat) (y : X) : post (.append ap es bytes (.t n) y) env h = env.set n (env.getD n .undef).sh := rfl
theorem strip_appendC (ap : Bool) (es bytes : Nat) (c : LV) (y : X) : post (.append ap es bytes (.c c) y) env h = env := rfl
theorem strip_copy (es : Nat) (x : X) (y : X) : post (.copy es x y) env h = env := rfl
theorem strip_make (mt : Bool) (es : Nat) (bytes : Nat) (zs : List LV) (l : X) (c : X) : post (.make mt es bytes zs l c) env h = env := rfl
theorem strip_mkmap  : post (.mkmap ) env h = env := rfl
theorem strip_lookup (zero : LV) (ok : Bool) (m : X) (k : X) : post (.lookup zero ok m k) env h = env := rfl
theorem strip_update (m : X) (k : X) (v : X) : post (.update m k v) env h = env := rfl
theorem strip_mkfunc (f : FuncId) (caps : List X) : post (.mkfunc f caps) env h = env := rfl
theorem strip_call (pu : Bool) (f : FuncId) (args : List X) : post (.call pu f args) env h = env := rfl
theorem strip_callv (f : X) (args : List X) : post (.callv f args) env h = env := rfl
theorem strip_ext (k : ExtK) (xs : List X) : post (.ext k xs) env h = env := rfl
theorem strip_rewr (k : RwK) (es : Nat) (g : FuncId) (x f : X) : post (.rewr k es g x f) env h = env := rfl
theorem strip_concat (es bytes : Nat) (x : X) : post (.concat es bytes x) env h = env := rfl
theorem strip_capL (x : X) : post (.capL x) env h = env := rfl
theorem strip_stuck  : post (.stuck ) env h = env := rfl
theorem rootX_mvF (x : X) : rootX (.mv false x) = none := rfl
theorem ldX_mvF (x : X) : ldX (.mv false x) = none := rfl
theorem rootX_mvT (n : Nat) : rootX (.mv true (.t n)) = none := rfl
theorem ldX_mvT (n : Nat) : ldX (.mv true (.t n)) = none := rfl
theorem rootX_mvC (c : LV) : rootX (.mv true (.c c)) = none := rfl
theorem ldX_mvC (c : LV) : ldX (.mv true (.c c)) = none := rfl
theorem rootX_mvs (x : X) : rootX (.mvs x) = none := rfl
theorem ldX_mvs (x : X) : ldX (.mvs x) = none := rfl
theorem rootX_pick (c : X) (a : X) (b : X) : rootX (.pick c a b) = none := rfl
theorem ldX_pick (c : X) (a : X) (b : X) : ldX (.pick c a b) = none := rfl
theorem rootX_alloc (zs : List LV) : rootX (.alloc zs) = none := rfl
theorem ldX_alloc (zs : List LV) : ldX (.alloc zs) = none := rfl
theorem rootX_box (x : X) : rootX (.box x) = none := rfl
theorem ldX_box (x : X) : ldX (.box x) = none := rfl
theorem rootX_build (zs : List LV) (ps : List (Nat × Nat × X)) : rootX (.build zs ps) = none := rfl
theorem ldX_build (zs : List LV) (ps : List (Nat × Nat × X)) : ldX (.build zs ps) = none := rfl
theorem rootX_bslice (mt : Bool) (len : Nat) (es : Nat) (zs : List LV) (ps : List (Nat × Nat × X)) : rootX (.bslice mt len es zs ps) = none := rfl
theorem ldX_bslice (mt : Bool) (len : Nat) (es : Nat) (zs : List LV) (ps : List (Nat × Nat × X)) : ldX (.bslice mt len es zs ps) = none := rfl
theorem rootX_storeT (k n : Nat) (a : X) : rootX (.store k a (.t n)) = none := rfl
theorem ldX_storeT (k n : Nat) (a : X) : ldX (.store k a (.t n)) = none := rfl
theorem rootX_storeC (k : Nat) (a : X) (c : LV) : rootX (.store k a (.c c)) = none := rfl
theorem ldX_storeC (k : Nat) (a : X) (c : LV) : ldX (.store k a (.c c)) = none := rfl
theorem rootX_nilchk (x : X) : rootX (.nilchk x) = none := rfl
theorem ldX_nilchk (x : X) : ldX (.nilchk x) = none := rfl
theorem rootX_bin (op : BinOp) (x : X) (y : X) : rootX (.bin op x y) = none := rfl
theorem ldX_bin (op : BinOp) (x : X) (y : X) : ldX (.bin op x y) = none := rfl
theorem rootX_eqv (ng : Bool) (k : EK) (x : X) (y : X) : rootX (.eqv ng k x y) = none := rfl
theorem ldX_eqv (ng : Bool) (k : EK) (x : X) (y : X) : ldX (.eqv ng k x y) = none := rfl
theorem rootX_un (op : UnOp) (x : X) : rootX (.un op x) = none := rfl
theorem ldX_un (op : UnOp) (x : X) : ldX (.un op x) = none := rfl
theorem rootX_conv (k : IntKind) (x : X) : rootX (.conv k x) = none := rfl
theorem ldX_conv (k : IntKind) (x : X) : ldX (.conv k x) = none := rfl
theorem rootX_b2s (x : X) : rootX (.b2s x) = none := rfl
theorem ldX_b2s (x : X) : ldX (.b2s x) = none := rfl
theorem rootX_s2b (x : X) : rootX (.s2b x) = none := rfl
theorem ldX_s2b (x : X) : ldX (.s2b x) = none := rfl
theorem rootX_slcA (len es : Nat) (x : X) (lo' : Option X) (hi : Option X) : rootX (.slcA len es x lo' hi) = none := rfl
theorem ldX_slcA (len es : Nat) (x : X) (lo' : Option X) (hi : Option X) : ldX (.slcA len es x lo' hi) = none := rfl
theorem rootX_slc (es : Nat) (x : X) (lo' : Option X) (hi : Option X) (mx : Option X) : rootX (.slc es x lo' hi mx) = none := rfl
theorem ldX_slc (es : Nat) (x : X) (lo' : Option X) (hi : Option X) (mx : Option X) : ldX (.slc es x lo' hi mx) = none := rfl
theorem rootX_field (ag : Bool) (off : Nat) (n : Nat) (x : X) : rootX (.field ag off n x) = none := rfl
theorem ldX_field (ag : Bool) (off : Nat) (n : Nat) (x : X) : ldX (.field ag off n x) = none := rfl
theorem rootX_indexAddr (es : Nat) (x : X) (i : X) : rootX (.indexAddr es x i) = none := rfl
theorem ldX_indexAddr (es : Nat) (x : X) (i : X) : ldX (.indexAddr es x i) = none := rfl
theorem rootX_indexAddrA (len : Nat) (es : Nat) (x : X) (i : X) : rootX (.indexAddrA len es x i) = none := rfl
theorem ldX_indexAddrA (len : Nat) (es : Nat) (x : X) (i : X) : ldX (.indexAddrA len es x i) = none := rfl
theorem rootX_index (x : X) (i : X) : rootX (.index x i) = none := rfl
theorem ldX_index (x : X) (i : X) : ldX (.index x i) = none := rfl
theorem rootX_indexA (ag : Bool) (len : Nat) (es : Nat) (x : X) (i : X) : rootX (.indexA ag len es x i) = none := rfl
theorem ldX_indexA (ag : Bool) (len : Nat) (es : Nat) (x : X) (i : X) : ldX (.indexA ag len es x i) = none := rfl
theorem rootX_extract (i : Nat) (x : X) : rootX (.extract i x) = none := rfl
theorem ldX_extract (i : Nat) (x : X) : ldX (.extract i x) = none := rfl
theorem rootX_lenS (x : X) : rootX (.lenS x) = none := rfl
theorem ldX_lenS (x : X) : ldX (.lenS x) = none := rfl
theorem rootX_lenL (x : X) : rootX (.lenL x) = none := rfl
theorem ldX_lenL (x : X) : ldX (.lenL x) = none := rfl
theorem rootX_lenM (x : X) : rootX (.lenM x) = none := rfl
theorem ldX_lenM (x : X) : ldX (.lenM x) = none := rfl
theorem rootX_lenC (n : Nat) : rootX (.lenC n) = none := rfl
theorem ldX_lenC (n : Nat) : ldX (.lenC n) = none := rfl
theorem rootX_min2 (xs : List X) : rootX (.min2 xs) = none := rfl
theorem ldX_min2 (xs : List X) : ldX (.min2 xs) = none := rfl
theorem rootX_max2 (xs : List X) : rootX (.max2 xs) = none := rfl
theorem ldX_max2 (xs : List X) : ldX (.max2 xs) = none := rfl
theorem rootX_appendT (ap : Bool) (es bytes n : Nat) (y : X) : rootX (.append ap es bytes (.t n) y) = none := rfl
theorem ldX_appendT (ap : Bool) (es bytes n : Nat) (y : X) : ldX (.append ap es bytes (.t n) y) = none := rfl
theorem rootX_appendC (ap : Bool) (es bytes : Nat) (c : LV) (y : X) : rootX (.append ap es bytes (.c c) y) = none := rfl
theorem ldX_appendC (ap : Bool) (es bytes : Nat) (c : LV) (y : X) : ldX (.append ap es bytes (.c c) y) = none := rfl
theorem rootX_copy (es : Nat) (x : X) (y : X) : rootX (.copy es x y) = none := rfl
theorem ldX_copy (es : Nat) (x : X) (y : X) : ldX (.copy es x y) = none := rfl
theorem rootX_make (mt : Bool) (es : Nat) (bytes : Nat) (zs : List LV) (l : X) (c : X) : rootX (.make mt es bytes zs l c) = none := rfl
theorem ldX_make (mt : Bool) (es : Nat) (bytes : Nat) (zs : List LV) (l : X) (c : X) : ldX (.make mt es bytes zs l c) = none := rfl
theorem rootX_mkmap  : rootX (.mkmap ) = none := rfl
theorem ldX_mkmap  : ldX (.mkmap ) = none := rfl
theorem rootX_lookup (zero : LV) (ok : Bool) (m : X) (k : X) : rootX (.lookup zero ok m k) = none := rfl
theorem ldX_lookup (zero : LV) (ok : Bool) (m : X) (k : X) : ldX (.lookup zero ok m k) = none := rfl
theorem rootX_update (m : X) (k : X) (v : X) : rootX (.update m k v) = none := rfl
theorem ldX_update (m : X) (k : X) (v : X) : ldX (.update m k v) = none := rfl
theorem rootX_mkfunc (f : FuncId) (caps : List X) : rootX (.mkfunc f caps) = none := rfl
theorem ldX_mkfunc (f : FuncId) (caps : List X) : ldX (.mkfunc f caps) = none := rfl
theorem rootX_call (pu : Bool) (f : FuncId) (args : List X) : rootX (.call pu f args) = none := rfl
theorem ldX_call (pu : Bool) (f : FuncId) (args : List X) : ldX (.call pu f args) = none := rfl
theorem rootX_callv (f : X) (args : List X) : rootX (.callv f args) = none := rfl
theorem ldX_callv (f : X) (args : List X) : ldX (.callv f args) = none := rfl
theorem rootX_ext (k : ExtK) (xs : List X) : rootX (.ext k xs) = none := rfl
theorem ldX_ext (k : ExtK) (xs : List X) : ldX (.ext k xs) = none := rfl
theorem rootX_rewr (k : RwK) (es : Nat) (g : FuncId) (x f : X) : rootX (.rewr k es g x f) = none := rfl
theorem ldX_rewr (k : RwK) (es : Nat) (g : FuncId) (x f : X) : ldX (.rewr k es g x f) = none := rfl
theorem rootX_concat (es bytes : Nat) (x : X) : rootX (.concat es bytes x) = none := rfl
theorem ldX_concat (es bytes : Nat) (x : X) : ldX (.concat es bytes x) = none := rfl
theorem rootX_capL (x : X) : rootX (.capL x) = none := rfl
theorem ldX_capL (x : X) : ldX (.capL x) = none := rfl
theorem rootX_stuck  : rootX (.stuck ) = none := rfl
theorem ldX_stuck  : ldX (.stuck ) = none := rfl
theorem ldX_fieldAddr (o : Nat) (x : X) : ldX (.fieldAddr o x) = none := rfl
theorem ldX_loadT (a : Bool) (n : Nat) (x : X) : ldX (.load true a n x) = none := rfl
theorem rootX_loadT (a : Bool) (n : Nat) (x : X) : rootX (.load true a n x) = none := rfl
theorem consP_undef  (l : List Nat) : consP .undef l = l := rfl
theorem okP_undef (wl : List Nat)  : okP wl .undef = True := rfl
theorem consP_bool (b : Bool) (l : List Nat) : consP (.bool b) l = l := rfl
theorem okP_bool (wl : List Nat) (b : Bool) : okP wl (.bool b) = True := rfl
theorem consP_int (k : IntKind) (n : Int) (l : List Nat) : consP (.int k n) l = l := rfl
theorem okP_int (wl : List Nat) (k : IntKind) (n : Int) : okP wl (.int k n) = True := rfl
theorem consP_str (s : List UInt8) (l : List Nat) : consP (.str s) l = l := rfl
theorem okP_str (wl : List Nat) (s : List UInt8) : okP wl (.str s) = True := rfl
theorem consP_cptr (cs : List VV) (o : Nat) (l : List Nat) : consP (.cptr cs o) l = l := rfl
theorem okP_cptr (wl : List Nat) (cs : List VV) (o : Nat) : okP wl (.cptr cs o) = True := rfl
theorem consP_nilptr  (l : List Nat) : consP .nilptr l = l := rfl
theorem okP_nilptr (wl : List Nat)  : okP wl .nilptr = True := rfl
theorem consP_list (m : LMode) (r : List (List VV)) (l : List Nat) : consP (.list m r) l = l := rfl
theorem okP_list (wl : List Nat) (m : LMode) (r : List (List VV)) : okP wl (.list m r) = True := rfl
theorem consP_hs (n o k e : Nat) (l : List Nat) : consP (.hs n o k e) l = l := rfl
theorem okP_hs (wl : List Nat) (n o k e : Nat) : okP wl (.hs n o k e) = True := rfl
theorem consP_map (n : Nat) (l : List Nat) : consP (.map n) l = l := rfl
theorem okP_map (wl : List Nat) (n : Nat) : okP wl (.map n) = True := rfl
theorem consP_nilmap  (l : List Nat) : consP .nilmap l = l := rfl
theorem okP_nilmap (wl : List Nat)  : okP wl .nilmap = True := rfl
theorem consP_func (f : FuncId) (cs : List VV) (l : List Nat) : consP (.func f cs) l = l := rfl
theorem okP_func (wl : List Nat) (f : FuncId) (cs : List VV) : okP wl (.func f cs) = True := rfl
theorem consP_nilfunc  (l : List Nat) : consP .nilfunc l = l := rfl
theorem okP_nilfunc (wl : List Nat)  : okP wl .nilfunc = True := rfl
theorem consP_iface (t : TypeId) (v : VV) (l : List Nat) : consP (.iface t v) l = l := rfl
theorem okP_iface (wl : List Nat) (t : TypeId) (v : VV) : okP wl (.iface t v) = True := rfl
theorem consP_nilif  (l : List Nat) : consP .nilif l = l := rfl
theorem okP_nilif (wl : List Nat)  : okP wl .nilif = True := rfl
theorem consP_agg (cs : List VV) (l : List Nat) : consP (.agg cs) l = l := rfl
theorem okP_agg (wl : List Nat) (cs : List VV) : okP wl (.agg cs) = True := rfl
theorem consP_tup (cs : List VV) (l : List Nat) : consP (.tup cs) l = l := rfl
theorem okP_tup (wl : List Nat) (cs : List VV) : okP wl (.tup cs) = True := rfl
theorem consP_ptr (n o : Nat) (l : List Nat) : consP (.ptr n o) l = n :: l := rfl
theorem okP_ptr (wl : List Nat) (n o : Nat) : okP wl (.ptr n o) = (n ∈ wl) := rfl
theorem vr_t (n : Nat) : vr env (.t n) = env.getD n .undef := rfl
theorem vr_c (c : LV) : vr env (.c c) = ofLV c := rfl
theorem cmpX_t (n : Nat) : cmpX env (.t n) = cmpV (env.getD n .undef) := rfl
theorem cmpX_c (c : LV) : cmpX env (.c c) = c := rfl
theorem putV_s (d : Nat) (v : VV) : putV env (some d) v = env.set d v := rfl
theorem putV_n (v : VV) : putV env none v = env := rfl
theorem ofLV_int (k : IntKind) (n : Int) : ofLV (.int k n) = .int k n := by simp only [ofLV]
theorem ofLV_bool (b : Bool) : ofLV (.bool b) = .bool b := by simp only [ofLV]
theorem ofLV_str (s : List UInt8) : ofLV (.str s) = .str s := by simp only [ofLV]
theorem ofLV_nilslice : ofLV .nilslice = .list .f [] := by simp only [ofLV]
theorem ofLV_nilptr : ofLV .nilptr = .nilptr := by simp only [ofLV]
theorem ofLV_nilfunc : ofLV .nilfunc = .nilfunc := by simp only [ofLV]
theorem ofLV_nilmap : ofLV .nilmap = .nilmap := by simp only [ofLV]
theorem ofLV_nilif : ofLV .nilif = .nilif := by simp only [ofLV]
theorem ofLV_agg (cs : List LV) : ofLV (.agg cs) = .agg (ofLVs cs) := by simp only [ofLV]
theorem ofLV_tup (cs : List LV) : ofLV (.tup cs) = .tup (ofLVs cs) := by simp only [ofLV]
theorem ofLV_func (f : FuncId) : ofLV (.func f []) = .func f [] := by simp only [ofLV]
theorem ofLVs_nil : ofLVs [] = [] := by simp only [ofLVs]
theorem ofLVs_cons (v : LV) (r : List LV) : ofLVs (v :: r) = ofLV v :: ofLVs r := by simp only [ofLVs]
theorem binE_add (k : IntKind) (a b : Int) : binE .add (.int k a) (.int k b) = some (.int k (k.wrap (a + b))) := by simp only [binE,if_true]
theorem binE_sub (k : IntKind) (a b : Int) : binE .sub (.int k a) (.int k b) = some (.int k (k.wrap (a - b))) := by simp only [binE,if_true]
theorem binE_mul (k : IntKind) (a b : Int) : binE .mul (.int k a) (.int k b) = some (.int k (k.wrap (a * b))) := by simp only [binE,if_true]
theorem binE_eql (k : IntKind) (a b : Int) : binE .eql (.int k a) (.int k b) = some (.bool (a == b)) := by simp only [binE,if_true]
theorem binE_neq (k : IntKind) (a b : Int) : binE .neq (.int k a) (.int k b) = some (.bool (a != b)) := by simp only [binE,if_true]
theorem binE_lss (k : IntKind) (a b : Int) : binE .lss (.int k a) (.int k b) = some (.bool (decide (a < b))) := by simp only [binE,if_true]
theorem binE_leq (k : IntKind) (a b : Int) : binE .leq (.int k a) (.int k b) = some (.bool (decide (a ≤ b))) := by simp only [binE,if_true]
theorem binE_gtr (k : IntKind) (a b : Int) : binE .gtr (.int k a) (.int k b) = some (.bool (decide (b < a))) := by simp only [binE,if_true]
theorem binE_geq (k : IntKind) (a b : Int) : binE .geq (.int k a) (.int k b) = some (.bool (decide (b ≤ a))) := by simp only [binE,if_true]
theorem binE_quo (k : IntKind) (a b : Int) : binE .quo (.int k a) (.int k b) = if b = 0 then none else some (.int k (k.wrap (a.tdiv b))) := by simp only [binE,if_true]
theorem binE_rem (k : IntKind) (a b : Int) : binE .rem (.int k a) (.int k b) = if b = 0 then none else some (.int k (a.tmod b)) := by simp only [binE,if_true]
theorem binE_seql (a b : List UInt8) : binE .eql (.str a) (.str b) = some (.bool (a == b)) := rfl
theorem binE_sneq (a b : List UInt8) : binE .neq (.str a) (.str b) = some (.bool !(a == b)) := rfl
theorem unE_not (b : Bool) : unE .not (.bool b) = some (.bool !b) := rfl
theorem unE_neg (k : IntKind) (n : Int) : unE .neg (.int k n) = some (.int k (k.wrap (0 - n))) := rfl
end
end Vg
