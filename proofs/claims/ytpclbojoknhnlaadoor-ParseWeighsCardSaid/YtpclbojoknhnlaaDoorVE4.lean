/- slices.Concat of two lists, as an operation. -/
import Derived.Test.YtpclbojoknhnlaaDoorVG3d
import Derived.Test.YtpclbojoknhnlaaDoorVLgExt
namespace Vg.G3d
open Go Lg Go.RowKit Go.Proofs
set_option linter.unusedSimpArgs false
set_option linter.unusedVariables false
set_option maxRecDepth 10000
set_option maxHeartbeats 2000000
def keepL (keep : List Nat) : Nat → Env → Env
  | _, [] => []
  | i, v :: r => (if keep.contains i then v else .undef) :: keepL keep (i + 1) r
theorem exS {a : LV} {b : Heap} {Q : LV → Heap → Prop} : (∃ v h', some (a, b) = some (v, h') ∧ Q v h') = Q a b :=
  propext ⟨fun ⟨_, _, e, hq⟩ => by cases e; exact hq, fun hq => ⟨_, _, rfl, hq⟩⟩
def zr : List LV := [.int .i64 0, .str [], .str [], .bool false, .str [], .str [], .int .i64 0, .nilslice]
theorem grow_run {cs : CallS} {K : Nat} {h : Heap} {Q : LV → Heap → Prop} {n : Nat} (hn : 0 < n) (hb : (n + 512) * 112 ≤ 140737488355328) (hq : Q (.slice h.length 0 0 8 false) (h ++ [.cells true (rows zr n)])) :
    bodyS cs K slices_Grow_antryparseStmt_f [.nilslice, .int .i64 n] h Q := by
  refine ⟨rfl, ?_⟩
  have h0 : ¬ (n : Int) < 0 := by omega
  have hw : IntKind.i64.wrap ((n : Int) - IntKind.i64.wrap (0 - 0)) = n := by
    have : IntKind.i64.wrap (0 - 0) = 0 := by decide
    rw [this]; exact wrap_id (by omega) (by omega)
  have hp : (0 : Int) < n := by omega
  simp only [slices_Grow_antryparseStmt_f, slices_Grow_antryparseStmt_r0, slices_Grow_antryparseStmt_r1, slices_Grow_antryparseStmt_r2, slices_Grow_antryparseStmt_r3, slices_Grow_antryparseStmt_r4, slices_Grow_antryparseStmt_r5, slices_Grow_antryparseStmt_r6,
    codeS, opsS, operS, opS, opE, X.ev, exS, List.replicate, List.cons_append, List.nil_append, List.getD_cons_zero, List.getD_cons_succ, putE, List.set_cons_zero, List.set_cons_succ, binE, if_true, h0, decide_false, Bool.false_eq_true, if_false, hw, gt_iff_lt, hp, decide_true, bnds, asNat, Int.toNat_natCast, hb, and_self]
  simp only [↓reduceIte, Nat.reduceEqDiff, Nat.zero_le, Nat.le_refl, Int.le_refl, Int.toNat_zero, reduceCtorEq, ne_eq, not_false_eq_true, and_self, exS, hp, hb, Int.toNat_natCast, Nat.zero_mul, Nat.add_zero, Nat.sub_self, Nat.zero_add, Bool.false_and, resultsE, resE, oneOf, List.getD_cons_zero, List.getD_cons_succ, or_true, true_and]
  exact ⟨_, rfl, hq⟩
theorem grow_run0 {cs : CallS} {K : Nat} {h : Heap} {Q : LV → Heap → Prop} (hq : Q .nilslice h) :
    bodyS cs K slices_Grow_antryparseStmt_f [.nilslice, .int .i64 0] h Q := by
  refine ⟨rfl, ?_⟩
  have hw : IntKind.i64.wrap ((0 : Int) - IntKind.i64.wrap (0 - 0)) = 0 := by decide
  simp only [slices_Grow_antryparseStmt_f, slices_Grow_antryparseStmt_r0, slices_Grow_antryparseStmt_r1, slices_Grow_antryparseStmt_r2, slices_Grow_antryparseStmt_r3, slices_Grow_antryparseStmt_r4, slices_Grow_antryparseStmt_r5, slices_Grow_antryparseStmt_r6,
    codeS, opsS, operS, opS, opE, X.ev, exS, List.replicate, List.cons_append, List.nil_append, List.getD_cons_zero, List.getD_cons_succ, putE, List.set_cons_zero, List.set_cons_succ, binE, if_true, Int.lt_irrefl, decide_false, Bool.false_eq_true, if_false, hw, gt_iff_lt, ↓reduceIte, resultsE, resE, oneOf, or_true, true_and]
  exact ⟨_, rfl, hq⟩
theorem srcOf_keep {es : Nat} {h h' : Heap} {a : LV} {r : List LV × Nat} (hk : ∀ i, i < h.length → h'[i]? = h[i]?) (hs : srcOf es h a = some r) : srcOf es h' a = some r := by
  unfold srcOf at hs ⊢
  split at hs
  · exact hs
  · exact hs
  · rename_i n off len es' f
    split at hs
    · rename_i h0; simp only [h0, if_true]; exact hs
    · rename_i h0
      split at hs
      case isFalse => cases hs
      rename_i he
      simp only [h0, he, if_false, if_true] at hs ⊢
      unfold cellsOf at hs ⊢
      simp only at hs ⊢
      have : h'[n]? = h[n]? := by
        rcases Nat.lt_or_ge n h.length with hn | hn
        · exact hk n hn
        · rw [List.getElem?_eq_none hn] at hs; simp at hs
      rw [this]; exact hs
  · cases hs
theorem len_src {h : Heap} {a : LV} {ca : List LV} {ka : Nat} (hs : srcOf 8 h a = some (ca, ka)) : (∃ c, ca = c ∧ (a = .nilslice ∧ ka = 0 ∨ ∃ n off es f, a = .slice n off ka es f)) := by
  unfold srcOf at hs
  split at hs
  · simp at hs
  · cases hs; exact ⟨_, rfl, .inl ⟨rfl, rfl⟩⟩
  · split at hs
    · rename_i h0; subst h0; cases hs; exact ⟨_, rfl, .inr ⟨_, _, _, _, rfl⟩⟩
    · split at hs
      · split at hs
        · cases hs; exact ⟨_, rfl, .inr ⟨_, _, _, _, rfl⟩⟩
        · cases hs
      · cases hs
  · cases hs
theorem len_op {h : Heap} {a : LV} {ca : List LV} {ka : Nat} (hs : srcOf 8 h a = some (ca, ka)) (g : Heap) : opE noCall 0 (.lenL (.c a)) [] g = some (LV.int .i64 ka, g) := by
  obtain ⟨_, _, ⟨rfl, rfl⟩ | ⟨n, off, es, f, rfl⟩⟩ := len_src hs <;> rfl
theorem src_len {h : Heap} {a : LV} {ca : List LV} {ka : Nat} (hs : srcOf 8 h a = some (ca, ka)) : ca.length = ka * 8 := by
  unfold srcOf at hs
  split at hs
  · simp at hs
  · cases hs; rfl
  · split at hs
    · cases hs; rfl
    · split at hs
      case isFalse => cases hs
      rename_i he
      subst he
      split at hs
      case h_2 => cases hs
      rename_i cs hcs
      cases hs
      unfold cellsOf at hcs
      simp only at hcs
      split at hcs
      case h_2 => cases hcs
      split at hcs
      case isFalse => cases hcs
      cases hcs
      rw [List.length_take, List.length_drop]; omega
  · cases hs
theorem app_own {h : Heap} {n len k : Nat} {c new : List LV} {y : LV} (hb : h[n]? = some (.cells true c)) (hl : len * 8 ≤ c.length) (hs : srcOf 8 h y = some (new, k)) (hk : k ≠ 0) (hr : (len + k + 512) * 112 ≤ 140737488355328) :
    appendE false 0 8 112 (.slice n 0 len 8 false) y h = some (.slice h.length 0 (len + k) 8 false, h.set n .dead ++ [.cells true (c.take (len * 8) ++ new)]) := by
  simp [appendE, hs, hk, hr, hb, hl, grownE]
theorem app_same {h : Heap} {n len : Nat} {new : List LV} {y : LV} (hs : srcOf 8 h y = some (new, 0)) : appendE false 0 8 112 (.slice n 0 len 8 false) y h = some (.slice n 0 len 8 false, h) := by
  simp [appendE, hs]
theorem app_nil {h : Heap} {new : List LV} {y : LV} (hs : srcOf 8 h y = some (new, 0)) : appendE false 0 8 112 .nilslice y h = some (.nilslice, h) := by
  simp [appendE, hs]
/-- The library's operation, of one argument. -/
def concatF (es bytes : Nat) : LFunc := ⟨2, 1, [.tmp 1], .ops [⟨some 1, none, .concat es bytes (.t 0)⟩]⟩
theorem keepE_cons (keep : List Nat) (env : Env) : keepE keep env = keepL keep 0 env := by
  have key : ∀ (env : Env) (i : Nat), (env.mapIdx fun j v => if keep.contains (j + i) then v else .undef) = keepL keep i env := by
    intro env
    induction env with
    | nil => intro i; rfl
    | cons v r ih =>
      intro i
      rw [List.mapIdx_cons]
      simp only [keepL, Nat.zero_add]
      congr 1
      rw [← ih (i + 1)]
      congr 1
      funext j v
      simp only [Nat.add_assoc, Nat.add_comm 1 i]
  exact key env 0
theorem iter5 {body : Env → Heap → (Out → Env → Heap → Prop) → Prop} {env : Env} {h : Heap} {Q : Out → Env → Heap → Prop} : iterS body 5 env h Q = body env h (fun o env' h' => match o with
    | .norm => iterS body 4 env' h' Q
    | o => Q o env' h') := rfl
theorem iter4 {body : Env → Heap → (Out → Env → Heap → Prop) → Prop} {env : Env} {h : Heap} {Q : Out → Env → Heap → Prop} : iterS body 4 env h Q = body env h (fun o env' h' => match o with
    | .norm => iterS body 3 env' h' Q
    | o => Q o env' h') := rfl
theorem iter3 {body : Env → Heap → (Out → Env → Heap → Prop) → Prop} {env : Env} {h : Heap} {Q : Out → Env → Heap → Prop} : iterS body 3 env h Q = body env h (fun o env' h' => match o with
    | .norm => iterS body 2 env' h' Q
    | o => Q o env' h') := rfl
theorem loopA {cs : CallS} {K : Nat} {env : Env} {h : Heap} {Q : Out → Env → Heap → Prop} {n off ka kb : Nat} {fl rw : Bool} {lcs ca cb : List LV} {a b : LV} (hblk : h[n]? = some (.cells rw lcs)) (ha : lcs[off]? = some a) (hb : lcs[off + 1]? = some b) (hsa : srcOf 8 h a = some (ca, ka)) (hsb : srcOf 8 h b = some (cb, kb))
    (hsz : (ka + kb + 512) * 112 ≤ 140737488355328) (he : keepE [0, 3, 9, 10, 11] env = [.slice n off 2 1 fl, .undef, .undef, .int .i64 0, .undef, .undef, .undef, .undef, .undef, .slice n off 2 1 fl, .int .i64 2, .int .i64 0, .undef, .undef, .undef, .undef, .undef, .undef, .undef, .undef, .undef, .undef, .undef, .undef, .undef, .undef, .undef, .undef, .undef, .undef, .undef, .undef, .undef, .undef, .undef, .undef])
    (hq : Q (.exit 0) [.slice n off 2 1 fl, .undef, .undef, .int .i64 ((ka + kb : Nat) : Int), .undef, .undef, .undef, .undef, .undef, .slice n off 2 1 fl, .int .i64 2, .int .i64 2, .bool false, .undef, .undef, .undef, .undef, .undef, .undef, .undef, .undef, .undef, .undef, .undef, .undef, .undef, .undef, .undef, .undef, .undef, .undef, .undef, .undef, .undef, .undef, .undef] h) :
    iterS (fun env h Q => codeS cs K slices_Concat_antryparseStmt_b0 (keepE [0, 3, 9, 10, 11] env) h Q) 5 env h Q := by
  have w1 : IntKind.i64.wrap (0 + (ka : Int)) = ka := by rw [wrap_id (by omega) (by omega)]; omega
  have w2 : IntKind.i64.wrap ((ka : Int) + kb) = ((ka + kb : Nat) : Int) := by rw [wrap_id (by omega) (by omega)]; rfl
  have n1 : ¬ (ka : Int) < 0 := by omega
  have n2 : ¬ ((ka + kb : Nat) : Int) < 0 := by omega
  have wi1 : IntKind.i64.wrap (0 + 1) = 1 := by decide
  have wi2 : IntKind.i64.wrap (1 + 1) = 2 := by decide
  have la := fun g => len_op hsa g
  have lb := fun g => len_op hsb g
  simp only [opE, X.ev] at la lb
  rw [iter5, he]
  simp only [slices_Concat_antryparseStmt_b0, slices_Concat_antryparseStmt_r3, slices_Concat_antryparseStmt_r4, slices_Concat_antryparseStmt_r5, slices_Concat_antryparseStmt_r6, slices_Concat_antryparseStmt_r7, slices_Concat_antryparseStmt_r8,
    codeS, opsS, operS, opS, opE, X.ev, exS, List.getD_cons_zero, List.getD_cons_succ, putE, List.set_cons_zero, List.set_cons_succ, binE, if_true, ↓reduceIte, Int.reduceLT, decide_true, asNat, Int.le_refl, Int.toNat_zero, Nat.zero_mul, Nat.add_zero, hblk, ha, la, w1, n1, decide_false, Bool.false_eq_true, wi1, Nat.reduceLT, and_self, and_true, true_and]
  rw [iter4, keepE_cons]
  simp only [keepL, List.contains_cons, List.contains_nil, Nat.reduceAdd, Nat.reduceBEq, Bool.or_false, Bool.or_true, Bool.false_or, Bool.true_or, beq_self_eq_true, if_true, Bool.false_eq_true, if_false,
    codeS, opsS, operS, opS, opE, X.ev, exS, List.getD_cons_zero, List.getD_cons_succ, putE, List.set_cons_zero, List.set_cons_succ, binE, ↓reduceIte, Int.reduceLT, Int.reduceLE, Int.toNat_one, Nat.one_mul, Nat.mul_one, decide_true, asNat, Int.le_refl, hblk, hb, lb, w2, n2, decide_false, wi2, Nat.reduceLT, and_self, and_true, true_and]
  rw [iter3, keepE_cons]
  simp only [keepL, List.contains_cons, List.contains_nil, Nat.reduceAdd, Nat.reduceBEq, Bool.or_false, Bool.or_true, Bool.false_or, Bool.true_or, beq_self_eq_true, if_true, Bool.false_eq_true, if_false,
    codeS, opsS, operS, opS, opE, X.ev, exS, List.getD_cons_zero, List.getD_cons_succ, putE, List.set_cons_zero, List.set_cons_succ, binE, ↓reduceIte, Int.lt_irrefl, decide_false]
  exact hq
theorem loopB {cs : CallS} {K : Nat} {env : Env} {g0 g1 g2 : Heap} {Q : Out → Env → Heap → Prop} {n off : Nat} {fl rw : Bool} {lcs : List LV} {a b s0 s1 s2 : LV} (hblk : g0[n]? = some (.cells rw lcs)) (hblk1 : g1[n]? = some (.cells rw lcs)) (ha : lcs[off]? = some a) (hb : lcs[off + 1]? = some b)
    (h1 : appendE false 0 8 112 s0 a g0 = some (s1, g1)) (h2 : appendE false 0 8 112 s1 b g1 = some (s2, g2)) (he : keepE [6, 25, 26, 27] env = [.undef, .undef, .undef, .undef, .undef, .undef, s0, .undef, .undef, .undef, .undef, .undef, .undef, .undef, .undef, .undef, .undef, .undef, .undef, .undef, .undef, .undef, .undef, .undef, .undef, .slice n off 2 1 fl, .int .i64 2, .int .i64 0, .undef, .undef, .undef, .undef, .undef, .undef, .undef, .undef])
    (hq : Q (.exit 2) [.undef, .undef, .undef, .undef, .undef, .undef, s2, .undef, .undef, .undef, .undef, .undef, .undef, .undef, .undef, .undef, .undef, .undef, .undef, .undef, .undef, .undef, .undef, .undef, .undef, .slice n off 2 1 fl, .int .i64 2, .int .i64 2, .bool false, .undef, .undef, .undef, .undef, .undef, .undef, .undef] g2) :
    iterS (fun env h Q => codeS cs K slices_Concat_antryparseStmt_b1 (keepE [6, 25, 26, 27] env) h Q) 5 env g0 Q := by
  have wi1 : IntKind.i64.wrap (0 + 1) = 1 := by decide
  have wi2 : IntKind.i64.wrap (1 + 1) = 2 := by decide
  rw [iter5, he]
  simp only [slices_Concat_antryparseStmt_b1, slices_Concat_antryparseStmt_r11, slices_Concat_antryparseStmt_r12, slices_Concat_antryparseStmt_r13, slices_Concat_antryparseStmt_r14,
    codeS, opsS, operS, opS, opE, X.ev, exS, List.getD_cons_zero, List.getD_cons_succ, putE, List.set_cons_zero, List.set_cons_succ, binE, if_true, ↓reduceIte, Int.reduceLT, decide_true, asNat, Int.le_refl, Int.toNat_zero, Nat.zero_mul, Nat.add_zero, hblk, ha, h1, decide_false, Bool.false_eq_true, wi1, Nat.reduceLT, and_self, and_true, true_and]
  rw [iter4, keepE_cons]
  simp only [keepL, List.contains_cons, List.contains_nil, Nat.reduceAdd, Nat.reduceBEq, Bool.or_false, Bool.or_true, Bool.false_or, Bool.true_or, beq_self_eq_true, if_true, Bool.false_eq_true, if_false,
    codeS, opsS, operS, opS, opE, X.ev, exS, List.getD_cons_zero, List.getD_cons_succ, putE, List.set_cons_zero, List.set_cons_succ, binE, ↓reduceIte, Int.reduceLT, Int.reduceLE, Int.toNat_one, Nat.one_mul, Nat.mul_one, decide_true, asNat, Int.le_refl, hblk1, hb, h2, decide_false, wi2, Nat.reduceLT, and_self, and_true, true_and]
  rw [iter3, keepE_cons]
  simp only [keepL, List.contains_cons, List.contains_nil, Nat.reduceAdd, Nat.reduceBEq, Bool.or_false, Bool.or_true, Bool.false_or, Bool.true_or, beq_self_eq_true, if_true, Bool.false_eq_true, if_false,
    codeS, opsS, operS, opS, opE, X.ev, exS, List.getD_cons_zero, List.getD_cons_succ, putE, List.set_cons_zero, List.set_cons_succ, binE, ↓reduceIte, Int.lt_irrefl, decide_false]
  exact hq
theorem concat_run {h : Heap} {Q : LV → Heap → Prop} {n off ka kb : Nat} {fl rw : Bool} {lcs ca cb : List LV} {a b : LV} (hblk : h[n]? = some (.cells rw lcs)) (ha : lcs[off]? = some a) (hb : lcs[off + 1]? = some b) (hsa : srcOf 8 h a = some (ca, ka)) (hsb : srcOf 8 h b = some (cb, kb))
    (hsz : (ka + kb + 512) * 112 ≤ 140737488355328) {s0 s1 s2 : LV} {g0 g1 g2 : Heap} (hblk0 : g0[n]? = some (.cells rw lcs)) (hblk1 : g1[n]? = some (.cells rw lcs))
    (hg : ∀ Q2 : LV → Heap → Prop, Q2 s0 g0 → callS lp 4 109 [.nilslice, .int .i64 ((ka + kb : Nat) : Int)] h Q2)
    (h1 : appendE false 0 8 112 s0 a g0 = some (s1, g1)) (h2 : appendE false 0 8 112 s1 b g1 = some (s2, g2)) (hq : Q s2 g2) :
    callS lp 5 54 [.slice n off 2 1 fl] h Q := by
  have hlp : lp 54 = some slices_Concat_antryparseStmt_f := rfl
  rw [callS, hlp]
  refine ⟨rfl, ?_⟩
  simp only [slices_Concat_antryparseStmt_f, slices_Concat_antryparseStmt_r0, slices_Concat_antryparseStmt_r1, slices_Concat_antryparseStmt_r2,
    codeS, opsS, operS, opS, opE, X.ev, exS, List.replicate, List.cons_append, List.nil_append, List.getD_cons_zero, List.getD_cons_succ, putE, List.set_cons_zero, List.set_cons_succ]
  refine loopA hblk ha hb hsa hsb hsz (by simp only [keepE_cons, keepL, List.contains_cons, List.contains_nil, Nat.reduceAdd, Nat.reduceBEq, Bool.or_false, Bool.or_true, Bool.false_or, Bool.true_or, beq_self_eq_true, if_true, Bool.false_eq_true, if_false]; rfl) ?_
  simp only [slices_Concat_antryparseStmt_r9, codeS, opsS, operS, opS, opE, X.ev, exS, List.getD_cons_zero, List.getD_cons_succ, putE, List.set_cons_zero, List.set_cons_succ, if_true, List.map_cons, List.map_nil]
  refine hg _ ?_
  simp only [slices_Concat_antryparseStmt_r10, codeS, opsS, operS, opS, opE, X.ev, exS, List.getD_cons_zero, List.getD_cons_succ, putE, List.set_cons_zero, List.set_cons_succ, if_true, List.map_cons, List.map_nil]
  refine loopB hblk0 hblk1 ha hb h1 h2 (by simp only [keepE_cons, keepL, List.contains_cons, List.contains_nil, Nat.reduceAdd, Nat.reduceBEq, Bool.or_false, Bool.or_true, Bool.false_or, Bool.true_or, beq_self_eq_true, if_true, Bool.false_eq_true, if_false]; rfl) ?_
  simp only [slices_Concat_antryparseStmt_r15, codeS, opsS, operS, opS, opE, X.ev, exS, List.getD_cons_zero, List.getD_cons_succ, putE, List.set_cons_zero, List.set_cons_succ, if_true, resultsE, resE, or_true, true_and]
  exact ⟨_, rfl, hq⟩
theorem grow_call {K : Nat} {args : List LV} {h : Heap} {Q : LV → Heap → Prop} (hb : bodyS (callS lp K) (K + 1) slices_Grow_antryparseStmt_f args h Q) : callS lp (K + 1) 109 args h Q := by
  have hlp2 : lp 109 = some slices_Grow_antryparseStmt_f := rfl
  rw [callS, hlp2]; exact hb
theorem room1 {ka kb : Nat} (h : (ka + kb + 512) * 112 ≤ 140737488355328) : (0 + ka + 512) * 112 ≤ 140737488355328 :=
  Nat.le_trans (Nat.mul_le_mul_right 112 (show 0 + ka + 512 ≤ ka + kb + 512 by omega)) h
theorem concat_ok {m : Bool} (hm : m = false) : ExtOK m Tryd.prog 54 (concatF 8 112) := by
  subst hm
  refine ⟨⟨_, Tryd.func54, by kernel_rfl, by decide⟩, fun cs K args h Q hbd w0 ρ w vs R hv => ?_⟩
  obtain ⟨hlen, hbd⟩ := hbd
  obtain ⟨l, rfl⟩ : ∃ l, args = [l] := by
    match args, hlen with
    | [l], _ => exact ⟨l, rfl⟩
  clear hlen
  suffices key : callS lp 5 54 [l] h Q from (callS_ok lp_ok 5 54 [l] h Q key).2 w0 ρ w vs R hv
  simp only [concatF, codeS, opsS, operS, opS, opE] at hbd
  obtain ⟨v, h', h3, _, vs', h5, hq⟩ := hbd
  simp only [resultsE, resE, putE, Option.some.injEq] at h5
  subst h5
  have ea : X.ev ([l] ++ List.replicate (2 - 1) (.tup [])) (.t 0) = l := rfl
  rw [ea] at h3
  have hq' : Q v h' := hq
  clear hq
  split at h3
  case h_2 => cases h3
  rename_i n off fl
  split at h3
  case h_2 => cases h3
  rename_i rw lcs hblk
  split at h3
  case h_2 => cases h3
  rename_i a b ha hb
  split at h3
  case h_2 => cases h3
  rename_i ca ka cb kb hsa hsb
  have hn := lt_of_getElem? hblk
  split at h3
  · rename_i h0
    cases h3
    obtain rfl : ka = 0 := by omega
    obtain rfl : kb = 0 := by omega
    have hg0 : ∀ Q2 : LV → Heap → Prop, Q2 .nilslice h → callS lp 4 109 [.nilslice, .int .i64 ((0 + 0 : Nat) : Int)] h Q2 := fun Q2 h2 => by
      rw [show ((0 + 0 : Nat) : Int) = 0 from rfl]
      exact grow_call (grow_run0 h2)
    exact concat_run hblk ha hb hsa hsb (by decide) hblk hblk hg0 (app_nil hsa) (app_nil hsb) hq'
  · rename_i h0
    split at h3
    case isFalse => cases h3
    rename_i hsz
    cases h3
    have hbz : (ka + kb + 512) * 112 ≤ 140737488355328 := hsz
    have old : ∀ (Y : Heap) (i : Nat), i < h.length → (h ++ Y)[i]? = h[i]? := fun Y i hi => List.getElem?_append_left hi
    have hz : (h ++ [LBlk.cells true (rows zr (ka + kb))])[h.length]? = some (.cells true (rows zr (ka + kb))) := List.getElem?_concat_length
    have hg : ∀ Q2 : LV → Heap → Prop, Q2 (.slice h.length 0 0 8 false) (h ++ [.cells true (rows zr (ka + kb))]) → callS lp 4 109 [.nilslice, .int .i64 ((ka + kb : Nat) : Int)] h Q2 := fun Q2 h2 => grow_call (grow_run (by omega) hsz h2)
    have set1 : ∀ c, (h ++ [LBlk.cells true c]).set h.length .dead = h ++ [.dead] := fun c => by rw [List.set_append_right _ _ (Nat.le_refl _), Nat.sub_self]; rfl
    by_cases hka : ka = 0
    · subst hka
      have hca : ca = [] := by
        have := hsa
        unfold srcOf at this
        split at this
        · simp at this
        · cases this; rfl
        · split at this
          · cases this; rfl
          · rename_i hl0
            split at this
            · split at this
              · cases this; exact absurd rfl hl0
              · cases this
            · cases this
        · cases this
      subst hca
      have e1 := app_same (n := h.length) (len := 0) (srcOf_keep (old [.cells true (rows zr (0 + kb))]) hsa)
      have e2 := app_own (n := h.length) (len := 0) hz (by simp) (srcOf_keep (old _) hsb) (by omega) hsz
      rw [set1, List.length_append] at e2
      refine concat_run hblk ha hb hsa hsb hsz (by rw [old _ _ hn]; exact hblk) (by rw [old _ _ hn]; exact hblk) hg e1 e2 ?_
      simpa using hq'
    · have e1 := app_own (n := h.length) (len := 0) hz (by simp) (srcOf_keep (old _) hsa) hka (room1 hsz)
      rw [set1, List.length_append, Nat.zero_mul, List.take_zero, List.nil_append, Nat.zero_add] at e1
      by_cases hkb : kb = 0
      · subst hkb
        have hcb : cb = [] := by
          have := hsb
          unfold srcOf at this
          split at this
          · simp at this
          · cases this; rfl
          · split at this
            · cases this; rfl
            · rename_i hl0
              split at this
              · split at this
                · cases this; exact absurd rfl hl0
                · cases this
              · cases this
          · cases this
        subst hcb
        have e2 := app_same (n := h.length + 1) (len := ka) (srcOf_keep (h' := h ++ [.dead] ++ [.cells true ca]) (fun i hi => by rw [List.append_assoc]; exact old _ i hi) hsb)
        refine concat_run hblk ha hb hsa hsb hsz (by rw [old _ _ hn]; exact hblk) (by rw [List.append_assoc, old _ _ hn]; exact hblk) hg e1 e2 ?_
        simpa [hka] using hq'
      · have hz2 : (h ++ [LBlk.dead] ++ [LBlk.cells true ca])[h.length + 1]? = some (.cells true ca) := by
          have : h.length + 1 = (h ++ [LBlk.dead]).length := by simp
          rw [this]; exact List.getElem?_concat_length
        have hcl : ca.length = ka * 8 := src_len hsa
        have e2 := app_own (n := h.length + 1) (len := ka) hz2 (by omega) (srcOf_keep (h' := h ++ [.dead] ++ [.cells true ca]) (fun i hi => by rw [List.append_assoc]; exact old _ i hi) hsb) hkb hsz
        refine concat_run hblk ha hb hsa hsb hsz (by rw [old _ _ hn]; exact hblk) (by rw [List.append_assoc, old _ _ hn]; exact hblk) hg e1 e2 ?_
        have set2 : (h ++ [LBlk.dead] ++ [LBlk.cells true ca]).set (h.length + 1) .dead = h ++ [.dead] ++ [.dead] := by
          have : h.length + 1 = (h ++ [LBlk.dead]).length := by simp
          rw [this, List.set_append_right _ _ (Nat.le_refl _), Nat.sub_self]; rfl
        rw [set2, List.take_of_length_le (by omega)]
        simpa [hka, hkb] using hq'
end Vg.G3d
