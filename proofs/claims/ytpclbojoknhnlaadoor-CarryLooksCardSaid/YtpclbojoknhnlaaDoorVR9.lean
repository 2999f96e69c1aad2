import Derived.Test.YtpclbojoknhnlaaDoorVR5
import Derived.Test.YtpclbojoknhnlaaDoorVH8
namespace Vg.G3
open Go Lg Vg.Nm
set_option linter.unusedSimpArgs false
set_option linter.unusedVariables false
set_option maxRecDepth 10000
set_option maxHeartbeats 4000000
attribute [local congr] bind_congr1
attribute [local go_sem] slices_Reverse_bytebyte_r0 slices_Reverse_bytebyte_r1 slices_Reverse_bytebyte_r2 slices_Reverse_bytebyte_r2_d slices_Reverse_bytebyte_r3 slices_Reverse_bytebyte_f slices_Reverse_bytebyte_v gantmake_digits_r0 gantmake_digits_r1 gantmake_digits_r2 gantmake_digits_r3 gantmake_digits_r4 gantmake_digits_r5 gantmake_digits_r6 gantmake_digits_f gantmake_digits_v gantmake_Of_r0 gantmake_Of_r1 gantmake_Of_r2 gantmake_Of_r3 gantmake_Of_r3_d gantmake_Of_r4 gantmake_Of_r4_d gantmake_Of_r5 gantmake_Of_f gantmake_Of_v

theorem enc_byt {d : Nat} (h : d ≠ 0) (h2 : d < 256) : encB d = [UInt8.ofNat d] := by
  rw [encB_pos h, Nat.div_eq_of_lt h2, encB_zero, Nat.mod_eq_of_lt h2]; rfl
theorem digits_zero (lo : Nat) (h : VHeap) : callVL vp lo n_gantmake_digits [.int .i64 0] h = some (.str [], h) := by
  refine call_valE (fn := gantmake_digits_v) rfl rfl rfl rfl rfl ?_ lo h
  have hR : ∀ h : VHeap, callVL vp 0 n_slices_Reverse_bytebyte [.list .s []] h = some (.tup [], h) := by
    intro h
    refine call_valE (fn := slices_Reverse_bytebyte_v) rfl rfl rfl rfl rfl ?_ 0 h
    have hw : IntKind.i64.wrap (0 - 1) = -1 := by decide
    simp -implicitDefEqProofs only [slices_Reverse_bytebyte_b0, go_sem, ↓reduceIte, reduceCtorEq, Int.reduceLT, Int.reduceLE, Int.reduceToNat, Nat.reduceAdd, Nat.reduceMul, Nat.reduceLeDiff, Nat.reduceLT, Nat.reduceSub, Int.reduceNeg, Int.reduceEq, Int.reduceBEq, Int.reduceBNe, Nat.reduceEqDiff, hw, loopV_eq, ↓thenV_norm, ↓thenV_exit, ↓thenV_ret, Int.lt_irrefl]
  simp -implicitDefEqProofs only [gantmake_digits_b0, go_sem, ↓reduceIte, reduceCtorEq, Int.reduceLT, Int.reduceLE, Int.reduceToNat, Nat.reduceAdd, Nat.reduceMul, Nat.reduceLeDiff, Nat.reduceLT, Nat.reduceSub, Int.reduceNeg, Int.reduceEq, Int.reduceBEq, Int.reduceBNe, Nat.reduceEqDiff, loopV_eq, ↓thenV_norm, ↓thenV_exit, ↓thenV_ret, Int.lt_irrefl, hR, bytesOf, isSl, List.flatten_cons, List.flatten_nil, sc_int]
theorem digN_spec {n : Nat} (hn : n < 256) (lo : Nat) (h : VHeap) : callVL vp lo n_gantmake_digits [.int .i64 (n : Int)] h = some (.str (encB n), h) := by
  by_cases h0 : n = 0
  · subst h0; rw [encB_zero]; exact digits_zero lo h
  · rw [enc_byt h0 hn]
    have := digits_small (n := n) (by omega) (by omega) lo h
    rwa [Int.toNat_natCast] at this
theorem OfM_spec {k : Int} {d : Nat} (hk : k.natAbs < 256) (hd0 : d ≠ 0) (hd : d < 256) (lo : Nat) (h : VHeap) : callVL vp lo n_gantmake_Of [.int .i64 k, .int .i64 (d : Int)] h = some (.agg (rv (mkRat k d)), h) := by
  refine call_valE (fn := gantmake_Of_v) rfl rfl rfl rfl rfl ?_ lo h
  have hw0 : IntKind.i64.wrap (0 - k) = -k := by rw [wrap_id (by omega) (by omega)]; omega
  have m1 : max k (IntKind.i64.wrap (0 - k)) = (k.natAbs : Int) := by rw [hw0]; omega
  obtain ⟨g, hg⟩ : ∃ g, Nat.gcd k.natAbs d = g := ⟨_, rfl⟩
  have hg0 : g ≠ 0 := by rintro rfl; exact hd0 (Nat.eq_zero_of_gcd_eq_zero_right hg)
  have hgi : ¬ (g : Int) = 0 := by omega
  have hgk : k.natAbs / g ≤ k.natAbs := Nat.div_le_self _ _
  have hgd : d / g ≤ d := Nat.div_le_self _ _
  have q2 : IntKind.i64.wrap ((d : Int).tdiv (g : Int)) = ((d / g : Nat) : Int) := by
    rw [← Int.ofNat_tdiv]
    generalize d / g = z at *
    exact wrap_id (by omega) (by omega)
  have dd := digN_spec (n := d / g) (by omega)
  have dk := digN_spec (n := k.natAbs / g) (by omega)
  simp -implicitDefEqProofs only [go_sem, ↓reduceIte, reduceCtorEq, Int.reduceLT, Int.reduceLE, Int.reduceToNat, Nat.reduceAdd, Nat.reduceMul, Nat.reduceLeDiff, Nat.reduceLT, Nat.reduceSub, Int.reduceNeg, Int.reduceEq, Int.reduceBEq, Int.reduceBNe, Nat.reduceEqDiff, m1]
  rw [Sat_bind]
  refine loop_down (I := fun i env h' => ∃ x : Nat, Nat.gcd x i = g ∧ h' = [.cells true [.bool false, .str [], .str []]] ∧ env = [.int .i64 k, .int .i64 (d : Int), .undef, .undef, .ptr 0 0, .int .i64 (x : Int), .int .i64 (i : Int), .undef, .undef, .undef, .undef, .undef, .undef, .undef, .undef, .undef, .undef, .undef, .undef, .undef, .undef, .undef, .undef, .undef, .undef, .undef, .undef, .undef, .undef, .undef, .undef, .undef, .undef, .undef]) ?_ (i := d) ⟨k.natAbs, hg, rfl, by simp -implicitDefEqProofs only [go_sem, ↓reduceIte, reduceCtorEq, Int.reduceLT, Int.reduceLE, Int.reduceToNat, Nat.reduceAdd, Nat.reduceMul, Nat.reduceLeDiff, Nat.reduceLT, Nat.reduceSub, Int.reduceNeg, Int.reduceEq, Int.reduceBEq, Int.reduceBNe, Nat.reduceEqDiff]⟩
  rintro i env h' ⟨x, hx, rfl, rfl⟩
  by_cases h0 : (0 : Int) < (i : Int)
  · have hne : ¬ ((i : Int) = 0) := by omega
    have hm : (x : Int).tmod (i : Int) = ((x % i : Nat) : Int) := by rw [← Int.ofNat_tmod]
    simp -implicitDefEqProofs only [gantmake_Of_b0, go_sem, ↓reduceIte, reduceCtorEq, Int.reduceLT, Int.reduceLE, Int.reduceToNat, Nat.reduceAdd, Nat.reduceMul, Nat.reduceLeDiff, Nat.reduceLT, Nat.reduceSub, Int.reduceNeg, Int.reduceEq, Int.reduceBEq, Int.reduceBNe, Nat.reduceEqDiff, h0, hne, hm]
    exact ⟨x % i, Nat.mod_lt _ (by omega), i, by rw [← hx, Nat.gcd_comm x i, Nat.gcd_rec i x, Nat.gcd_comm], rfl⟩
  obtain rfl : i = 0 := by omega
  rw [Nat.gcd_zero_right] at hx
  subst hx
  have c0 : ((0 : Nat) : Int) = 0 := rfl
  rw [c0]
  clear h0 m1 hw0
  rcases Int.lt_trichotomy k 0 with hs | hs | hs
  · have hk0 : k.natAbs ≠ 0 := by omega
    have e : k = sgn true k.natAbs := by unfold sgn; simp only [if_true]; omega
    have r := made_rv hk0 hd0 true
    rw [← e, hg] at r
    have hp : 0 < k.natAbs / x := Nat.div_pos (by rw [← hg]; exact Nat.gcd_le_left _ (by omega)) (by omega)
    have q1 : IntKind.i64.wrap (k.tdiv (x : Int)) = -((k.natAbs / x : Nat) : Int) := by
      have : k.tdiv (x : Int) = -((k.natAbs / x : Nat) : Int) := by
        rw [show k = -(k.natAbs : Int) by omega, Int.neg_tdiv, ← Int.ofNat_tdiv]; simp
      rw [this]
      generalize k.natAbs / x = z at *
      exact wrap_id (by omega) (by omega)
    have q3 : IntKind.i64.wrap (0 - -((k.natAbs / x : Nat) : Int)) = ((k.natAbs / x : Nat) : Int) := by
      generalize k.natAbs / x = z at *
      rw [wrap_id (by omega) (by omega)]; omega
    have q4 : max (-((k.natAbs / x : Nat) : Int)) ((k.natAbs / x : Nat) : Int) = ((k.natAbs / x : Nat) : Int) := by
      generalize k.natAbs / x = z at *
      omega
    have q5 : -((k.natAbs / x : Nat) : Int) < 0 := by
      generalize k.natAbs / x = z at *
      omega
    rw [r]
    generalize encB (k.natAbs / x) = N at *
    generalize encB (d / x) = D at *
    simp -implicitDefEqProofs only [gantmake_Of_b0, go_sem, ↓reduceIte, reduceCtorEq, Int.reduceLT, Int.reduceLE, Int.reduceToNat, Nat.reduceAdd, Nat.reduceMul, Nat.reduceLeDiff, Nat.reduceLT, Nat.reduceSub, Int.reduceNeg, Int.reduceEq, Int.reduceBEq, Int.reduceBNe, Nat.reduceEqDiff, Int.lt_irrefl, hgi, q1, q2, q3, q4, q5, dk, dd]
  · subst hs
    have e : mkRat 0 d = 0 := mk_zero d
    rw [e, rv_zero]
    have hgd' : x = d := by rw [← hg]; simp
    subst hgd'
    have q1 : IntKind.i64.wrap ((0 : Int).tdiv (x : Int)) = 0 := by rw [Int.zero_tdiv]; decide
    have q3 : IntKind.i64.wrap (0 - 0) = 0 := by decide
    have q4 : max (0 : Int) 0 = 0 := by decide
    rw [Nat.div_self (by omega)] at q2 dd
    rw [show ((1 : Nat) : Int) = 1 from rfl] at q2 dd
    have d0 := digits_zero
    generalize encB 1 = D at *
    simp -implicitDefEqProofs only [gantmake_Of_b0, go_sem, ↓reduceIte, reduceCtorEq, Int.reduceLT, Int.reduceLE, Int.reduceToNat, Nat.reduceAdd, Nat.reduceMul, Nat.reduceLeDiff, Nat.reduceLT, Nat.reduceSub, Int.reduceNeg, Int.reduceEq, Int.reduceBEq, Int.reduceBNe, Nat.reduceEqDiff, hgi, q1, q2, q3, q4, Int.lt_irrefl, d0, dd]
  · have hk0 : k.natAbs ≠ 0 := by omega
    have e : k = sgn false k.natAbs := by unfold sgn; simp only [Bool.false_eq_true, if_false]; omega
    have r := made_rv hk0 hd0 false
    rw [← e, hg] at r
    have q1 : IntKind.i64.wrap (k.tdiv (x : Int)) = ((k.natAbs / x : Nat) : Int) := by
      have : k.tdiv (x : Int) = ((k.natAbs / x : Nat) : Int) := by
        rw [show k = (k.natAbs : Int) by omega, ← Int.ofNat_tdiv]; simp
      rw [this]
      generalize k.natAbs / x = z at *
      exact wrap_id (by omega) (by omega)
    have q3 : IntKind.i64.wrap (0 - ((k.natAbs / x : Nat) : Int)) = -((k.natAbs / x : Nat) : Int) := by
      generalize k.natAbs / x = z at *
      rw [wrap_id (by omega) (by omega)]; omega
    have q4 : max ((k.natAbs / x : Nat) : Int) (-((k.natAbs / x : Nat) : Int)) = ((k.natAbs / x : Nat) : Int) := by
      generalize k.natAbs / x = z at *
      omega
    have q5 : ¬ ((k.natAbs / x : Nat) : Int) < 0 := by
      generalize k.natAbs / x = z at *
      omega
    rw [r]
    generalize encB (k.natAbs / x) = N at *
    generalize encB (d / x) = D at *
    simp -implicitDefEqProofs only [gantmake_Of_b0, go_sem, ↓reduceIte, reduceCtorEq, Int.reduceLT, Int.reduceLE, Int.reduceToNat, Nat.reduceAdd, Nat.reduceMul, Nat.reduceLeDiff, Nat.reduceLT, Nat.reduceSub, Int.reduceNeg, Int.reduceEq, Int.reduceBEq, Int.reduceBNe, Nat.reduceEqDiff, Int.lt_irrefl, hgi, q1, q2, q3, q4, q5, dk, dd]
end Vg.G3
namespace Vg.G3
open Go Lg Vg.Nm
set_option linter.unusedSimpArgs false
set_option linter.unusedVariables false
set_option maxRecDepth 10000
set_option maxHeartbeats 4000000
attribute [local congr] bind_congr1
attribute [local go_sem] gantkeep4_Pose_1_r0 gantkeep4_Pose_1_r1 gantkeep4_Pose_1_r2 gantkeep4_Pose_1_r2_d gantkeep4_Pose_1_f gantkeep4_Pose_1_v

/-- One span of a pose. -/
theorem PoseC_spec {m : Int} (hm0 : 1 ≤ m) (hm : m ≤ 20) (ys : List Int) (b0 : VBlk) (lo : Nat) (hlo : lo = 0) : callVL vp lo n_gantkeep4_Pose_1 [.int .i64 m, .ptr 2 0] [b0, strm ys, .cells true [.ptr 1 0]] =
    some (.agg (rv (mkRat ((nxt ys (2 * m + 1)).1 - m) 4) ++ rv (mkRat ((nxt ys (2 * m + 1)).1 - m + (nxt (nxt ys (2 * m + 1)).2 7).1) 4)), [b0, strm (nxt (nxt ys (2 * m + 1)).2 7).2, .cells true [.ptr 1 0]]) := by
  subst hlo
  obtain ⟨P, hP⟩ : ∃ P : VV × VHeap → Prop, P = fun r => r = (.agg (rv (mkRat ((nxt ys (2 * m + 1)).1 - m) 4) ++ rv (mkRat ((nxt ys (2 * m + 1)).1 - m + (nxt (nxt ys (2 * m + 1)).2 7).1) 4)), [b0, strm (nxt (nxt ys (2 * m + 1)).2 7).2, .cells true [.ptr 1 0]]) := ⟨_, rfl⟩
  have key := call_body (p := vp) (lo := 0) (h := [b0, strm ys, .cells true [.ptr 1 0]]) (f := n_gantkeep4_Pose_1) (fn := gantkeep4_Pose_1_v) (args := [.int .i64 m, .ptr 2 0]) (P := P) rfl (.inl rfl) rfl ?_
  · obtain ⟨r, hr, hp⟩ := key; subst hP; rw [hr, hp]
  have hP1 : P (.agg (rv (mkRat ((nxt ys (2 * m + 1)).1 - m) 4) ++ rv (mkRat ((nxt ys (2 * m + 1)).1 - m + (nxt (nxt ys (2 * m + 1)).2 7).1) 4)), [b0, strm (nxt (nxt ys (2 * m + 1)).2 7).2, .cells true [.ptr 1 0]]) := by subst hP; rfl
  clear hP
  have w1 : IntKind.i64.wrap (2 * m) = 2 * m := wrap_id (by omega) (by omega)
  have w2 : IntKind.i64.wrap (2 * m + 1) = 2 * m + 1 := wrap_id (by omega) (by omega)
  have n1 : ∀ (lo : Nat) (a : VBlk) (t : VHeap), lo = 0 → callVL vp lo n_gantmake_Stream_Next [.ptr 1 0, .int .i64 (2 * m + 1)] (a :: strm ys :: t) = some (.int .i64 (nxt ys (2 * m + 1)).1, a :: strm (nxt ys (2 * m + 1)).2 :: t) := fun lo a t h => next_at1 (by omega) a t _ _
  have b1 := nxt_bnd ys (2 * m + 1) (by omega) (by omega)
  generalize (nxt ys (2 * m + 1)).1 = x at *
  generalize (nxt ys (2 * m + 1)).2 = ys' at *
  have n2 : ∀ (lo : Nat) (a : VBlk) (t : VHeap), lo = 0 → callVL vp lo n_gantmake_Stream_Next [.ptr 1 0, .int .i64 7] (a :: strm ys' :: t) = some (.int .i64 (nxt ys' 7).1, a :: strm (nxt ys' 7).2 :: t) := fun lo a t h => next_at1 (by omega) a t _ _
  have b2 := nxt_bnd ys' 7 (by omega) (by omega)
  generalize (nxt ys' 7).1 = y at *
  generalize (nxt ys' 7).2 = zs at *
  have w3 : IntKind.i64.wrap (x - m) = x - m := wrap_id (by omega) (by omega)
  have w4 : IntKind.i64.wrap (x - m + y) = x - m + y := wrap_id (by omega) (by omega)
  have o1 := OfM_spec (k := x - m) (d := 4) (by omega) (by decide) (by decide)
  have o2 := OfM_spec (k := x - m + y) (d := 4) (by omega) (by decide) (by decide)
  rw [show ((4 : Nat) : Int) = 4 from rfl] at o1 o2
  obtain ⟨p1, q1, r1, e1⟩ := rvx (mkRat (x - m) 4)
  obtain ⟨p2, q2, r2, e2⟩ := rvx (mkRat (x - m + y) 4)
  simp only [e1, e2, List.cons_append, List.nil_append] at o1 o2 hP1
  simp only [strm, ints] at n1 n2 hP1 ⊢
  simp -implicitDefEqProofs only [go_sem, ↓reduceIte, reduceCtorEq, Int.reduceLT, Int.reduceLE, Int.reduceToNat, Nat.reduceAdd, Nat.reduceMul, Nat.reduceLeDiff, Nat.reduceLT, Nat.reduceSub, Int.reduceNeg, Int.reduceEq, Int.reduceBEq, Int.reduceBNe, Nat.reduceEqDiff, w1, w2, w3, w4, n1, n2, o1, o2]
  exact hP1
end Vg.G3
namespace Vg.G3
open Go Lg Vg.Nm
set_option linter.unusedSimpArgs false
set_option linter.unusedVariables false
set_option maxRecDepth 10000
set_option maxHeartbeats 4000000
attribute [local congr] bind_congr1
attribute [local go_sem] gantkeep4_Pose_r0 gantkeep4_Pose_r1 gantkeep4_Pose_r2 gantkeep4_Pose_r3 gantkeep4_Pose_f gantkeep4_Pose_v

theorem int_le {a b : Int} (h : a ≤ b) : (a : Rat) ≤ (b : Rat) := Rat.intCast_le_intCast.2 h
theorem mk_le {a b : Int} {d : Nat} (hd : d ≠ 0) (h : a ≤ b) : mkRat a d ≤ mkRat b d := by
  rw [Rat.mkRat_eq_div, Rat.mkRat_eq_div, Rat.div_def, Rat.div_def]
  refine Rat.mul_le_mul_of_nonneg_right (int_le h) (Rat.le_of_lt (Rat.inv_pos.2 ?_))
  exact_mod_cast Nat.pos_of_ne_zero hd
theorem mk_sq {k : Int} {d : Nat} (hk : k.natAbs < 268435456) (hd0 : d ≠ 0) (hd : d < 268435456) : SQ (mkRat k d) :=
  have b := BQ.of_eq hd0 (rfl : mkRat k d = mkRat k d) (Nat.le_refl k.natAbs)
  ⟨Nat.lt_of_le_of_lt b.num hk, Nat.lt_of_le_of_lt b.den hd⟩
/-- A pose in quarters. -/
structure QP (p : Po) : Prop where
  ex : ∃ x1 x2 y1 y2 t1 t2 : Int, p = ⟨mkRat x1 4, mkRat x2 4, mkRat y1 4, mkRat y2 4, mkRat t1 4, mkRat t2 4⟩ ∧ -20 ≤ x1 ∧ x1 ≤ x2 ∧ x2 ≤ 26 ∧ x2 - x1 ≤ 6 ∧ -20 ≤ y1 ∧ y1 ≤ y2 ∧ y2 ≤ 26 ∧ y2 - y1 ≤ 6 ∧ -4 ≤ t1 ∧ t1 ≤ t2 ∧ t2 ≤ 10 ∧ t2 - t1 ≤ 6
theorem mk_sp {a b : Int} (ha : -100000 ≤ a) (h : a ≤ b) (hb : b ≤ 100000) {d : Nat} (hd0 : d ≠ 0) (hd : d < 268435456) : SP (mkRat a d) (mkRat b d) :=
  ⟨mk_sq (by omega) hd0 hd, mk_sq (by omega) hd0 hd, mk_le hd0 h⟩
theorem QP.ok {p : Po} (g : QP p) : p.ok := by
  obtain ⟨x1, x2, y1, y2, t1, t2, rfl, h1, h2, h3, _, h5, h6, h7, _, h9, h10, h11, _⟩ := g.ex
  exact ⟨mk_sp (d := 4) (by omega) h2 (by omega) (by decide) (by decide), mk_sp (d := 4) (by omega) h6 (by omega) (by decide) (by decide), mk_sp (d := 4) (by omega) h10 (by omega) (by decide) (by decide)⟩
theorem Pose_spec (raw : List Int) : ∃ p : Po, QP p ∧ ∀ lo h, callVL vp lo n_gantkeep4_Pose [.list .s (raw.map fun x => [.int .i64 x])] h = some (.agg p.v, h) := by
  have k1 := fun b0 => PoseC_spec (m := 20) (by decide) (by decide) raw b0 0 rfl
  have b1 := nxt_bnd raw (2 * 20 + 1) (by decide) (by decide)
  generalize (nxt raw (2 * 20 + 1)).1 = x at *
  generalize (nxt raw (2 * 20 + 1)).2 = l1 at *
  have b2 := nxt_bnd l1 7 (by decide) (by decide)
  generalize (nxt l1 7).1 = dx at *
  generalize (nxt l1 7).2 = l2 at *
  have k2 := fun b0 => PoseC_spec (m := 20) (by decide) (by decide) l2 b0 0 rfl
  have b3 := nxt_bnd l2 (2 * 20 + 1) (by decide) (by decide)
  generalize (nxt l2 (2 * 20 + 1)).1 = y at *
  generalize (nxt l2 (2 * 20 + 1)).2 = l3 at *
  have b4 := nxt_bnd l3 7 (by decide) (by decide)
  generalize (nxt l3 7).1 = dy at *
  generalize (nxt l3 7).2 = l4 at *
  have k3 := fun b0 => PoseC_spec (m := 4) (by decide) (by decide) l4 b0 0 rfl
  have b5 := nxt_bnd l4 (2 * 4 + 1) (by decide) (by decide)
  generalize (nxt l4 (2 * 4 + 1)).1 = t at *
  generalize (nxt l4 (2 * 4 + 1)).2 = l5 at *
  have b6 := nxt_bnd l5 7 (by decide) (by decide)
  generalize (nxt l5 7).1 = dt at *
  generalize (nxt l5 7).2 = l6 at *
  refine ⟨⟨mkRat (x - 20) 4, mkRat (x - 20 + dx) 4, mkRat (y - 20) 4, mkRat (y - 20 + dy) 4, mkRat (t - 4) 4, mkRat (t - 4 + dt) 4⟩, ⟨_, _, _, _, _, _, rfl, by omega, by omega, by omega, by omega, by omega, by omega, by omega, by omega, by omega, by omega, by omega, by omega⟩, fun lo h => ?_⟩
  refine call_valE (fn := gantkeep4_Pose_v) rfl rfl rfl rfl rfl ?_ lo h
  unfold Po.v
  obtain ⟨p1, q1, r1, e1⟩ := rvx (mkRat (x - 20) 4)
  obtain ⟨p2, q2, r2, e2⟩ := rvx (mkRat (x - 20 + dx) 4)
  obtain ⟨p3, q3, r3, e3⟩ := rvx (mkRat (y - 20) 4)
  obtain ⟨p4, q4, r4, e4⟩ := rvx (mkRat (y - 20 + dy) 4)
  obtain ⟨p5, q5, r5, e5⟩ := rvx (mkRat (t - 4) 4)
  obtain ⟨p6, q6, r6, e6⟩ := rvx (mkRat (t - 4 + dt) 4)
  simp only [e1, e2, e3, e4, e5, e6, List.cons_append, List.nil_append] at k1 k2 k3 ⊢
  clear e1 e2 e3 e4 e5 e6
  simp only [strm, ints] at k1 k2 k3
  simp -implicitDefEqProofs only [go_sem, ↓reduceIte, reduceCtorEq, Int.reduceLT, Int.reduceLE, Int.reduceToNat, Nat.reduceAdd, Nat.reduceMul, Nat.reduceLeDiff, Nat.reduceLT, Nat.reduceSub, Int.reduceNeg, Int.reduceEq, Int.reduceBEq, Int.reduceBNe, Nat.reduceEqDiff, k1, k2, k3]
end Vg.G3
namespace Vg.G3
open Go Lg Vg.Nm
set_option linter.unusedSimpArgs false
set_option linter.unusedVariables false
set_option maxRecDepth 10000
set_option maxHeartbeats 4000000
attribute [local congr] bind_congr1
-- nothing

theorem mkn0 {D : Nat} (h : D ≠ 0) : (D : Rat) ≠ 0 := by exact_mod_cast h
theorem mk_sub {a b : Int} {D : Nat} (h : D ≠ 0) : mkRat a D - mkRat b D = mkRat (a - b) D := by
  have := mkn0 h
  rw [Rat.mkRat_eq_div, Rat.mkRat_eq_div, Rat.mkRat_eq_div, Rat.intCast_sub]; grind
theorem mk_add {a b : Int} {D : Nat} (h : D ≠ 0) : mkRat a D + mkRat b D = mkRat (a + b) D := by
  have := mkn0 h
  rw [Rat.mkRat_eq_div, Rat.mkRat_eq_div, Rat.mkRat_eq_div, Rat.intCast_add]; grind
theorem mk_scale {a : Int} {D E : Nat} (hD : D ≠ 0) (hE : E ≠ 0) : mkRat a D = mkRat (a * E) (D * E) := mk_mul hD hE
theorem mk_prod {a b : Int} {D E : Nat} : mkRat a D * mkRat b E = mkRat (a * b) (D * E) := Rat.mkRat_mul_mkRat ..
/-- A pose over a denominator. -/
structure PD (D : Nat) (p : Po) (x1 x2 y1 y2 t1 t2 : Int) : Prop where
  eq : p = ⟨mkRat x1 D, mkRat x2 D, mkRat y1 D, mkRat y2 D, mkRat t1 D, mkRat t2 D⟩
  d0 : D ≠ 0
  d1 : D ≤ 100000
  lx : -100000 ≤ x1
  x : x1 ≤ x2
  hx : x2 ≤ 100000
  ly : -100000 ≤ y1
  y : y1 ≤ y2
  hy : y2 ≤ 100000
  lt : -100000 ≤ t1
  t : t1 ≤ t2
  ht : t2 ≤ 100000
end Vg.G3
