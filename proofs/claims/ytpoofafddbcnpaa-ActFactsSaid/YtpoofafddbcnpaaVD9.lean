import Derived.Test.YtpoofafddbcnpaaVD2
import Derived.Test.YtpoofafddbcnpaaVDP
namespace Vg.G3
open Go Lg
set_option linter.unusedSimpArgs false
set_option maxRecDepth 10000
set_option maxHeartbeats 2000000
attribute [local congr] bind_congr1
attribute [local go_sem] slices_Compact_gantryfactFact_r0 slices_Compact_gantryfactFact_r1 slices_Compact_gantryfactFact_r2 slices_Compact_gantryfactFact_r3 slices_Compact_gantryfactFact_r4 slices_Compact_gantryfactFact_r5 slices_Compact_gantryfactFact_r5_d slices_Compact_gantryfactFact_r6 slices_Compact_gantryfactFact_r7 slices_Compact_gantryfactFact_r8 slices_Compact_gantryfactFact_r9 slices_Compact_gantryfactFact_r9_d slices_Compact_gantryfactFact_r10 slices_Compact_gantryfactFact_r11 slices_Compact_gantryfactFact_r12 slices_Compact_gantryfactFact_r13 slices_Compact_gantryfactFact_r14 slices_Compact_gantryfactFact_r15 slices_Compact_gantryfactFact_r16 slices_Compact_gantryfactFact_f slices_Compact_gantryfactFact_v

theorem flen {α : Type} {es : Nat} {F : α → List VV} (hF : ∀ x, (F x).length = es) (xs : List α) : ∀ r ∈ xs.map F, r.length = es := fun r hr => by obtain ⟨w, _, rfl⟩ := List.mem_map.1 hr; exact hF w
theorem row_at {cur : List Fa} {m : Nat} {x : Fa} (h : cur[m]? = some x) : ((cur.map fF).flatten.drop (m * 3)).take 3 = [.int .i64 x.k, .int .i64 x.a, .int .i64 x.b] := flat_row (flen fF_len cur) (get_map h)
theorem cells_len (cur : List Fa) : (cur.map fF).flatten.length = cur.length * 3 := by rw [flat_len (flen fF_len cur), List.length_map]
theorem set_at {cur : List Fa} {m : Nat} {x y : Fa} (h : cur[m]? = some y) : List.take (m * 3) (cur.map fF).flatten ++ [VV.int .i64 x.k, .int .i64 x.a, .int .i64 x.b] ++ List.drop (m * 3 + 3) (cur.map fF).flatten = ((cur.set m x).map fF).flatten := by
  have := flat_set (d := 0) (vs := fF x) (flen fF_len cur) (get_map h) (by rw [fF_len]; exact Nat.le_refl 3)
  simp only [vsplice, Nat.add_zero, List.take_zero, List.nil_append, Nat.zero_add] at this
  rw [fF_len] at this
  rw [List.map_set]
  rw [show (fF y).drop 3 = [] from rfl, List.append_nil] at this
  exact this
theorem Compact_in {i n lo : Nat} {l : List Fa} {h : VHeap} (hi : i < l.length) (h1i : 1 ≤ i) (hl : l.length ≤ 1000) (hlo : lo ≤ n) (hn : h[n]? = some (.cells true (l.map fF).flatten)) (hd : compactF (l.take i) = l.take i) (hdup : compactF (l.take (i + 1)) = compactF (l.take i)) (Q : Out × VEnv × VHeap → Prop)
    (hQ : ∀ (cur : List Fa) (k : Nat), cur.length = l.length → k = (compactF l).length → cur.take k = compactF l → k < l.length → Q (.exit 2, ((.hs n 0 l.length 3 : VV) :: VV.undef :: VV.undef :: (.int .i64 ((k : Nat) : Int) : VV) :: (.hs n (i * 3) (l.length - i) 3 : VV) :: (.int .i64 ((l.length - i : Nat) : Int) : VV) :: VV.undef :: VV.undef :: VV.undef :: VV.undef :: VV.undef :: VV.undef :: VV.undef :: VV.undef :: VV.undef :: VV.undef :: VV.undef :: VV.undef :: VV.undef :: VV.undef :: VV.undef :: VV.undef :: VV.undef :: VV.undef :: VV.undef :: VV.undef :: VV.undef :: VV.undef :: VV.undef :: (.int .i64 ((l.length - i : Nat) : Int) : VV) :: (.hs n (i * 3) (l.length - i) 3 : VV) :: (.int .i64 ((l.length - i : Nat) : Int) : VV) :: (.bool false : VV) :: VV.undef :: VV.undef :: VV.undef :: VV.undef :: VV.undef :: VV.undef :: VV.undef :: VV.undef :: VV.undef :: VV.undef :: VV.undef :: VV.undef :: VV.undef :: VV.undef :: VV.undef :: VV.undef :: VV.undef :: VV.undef :: VV.undef :: VV.undef :: VV.undef :: VV.undef :: VV.undef :: VV.undef :: VV.undef :: VV.undef :: VV.undef :: VV.undef :: []), h.set n (.cells true (cur.map fF).flatten))) :
    Sat (loopV (callVL vp) lo [0, 3, 4, 5] slices_Compact_gantryfactFact_b1 ((.hs n 0 l.length 3 : VV) :: VV.undef :: VV.undef :: (.int .i64 ((i : Nat) : Int) : VV) :: (.hs n (i * 3) (l.length - i) 3 : VV) :: (.int .i64 1 : VV) :: VV.undef :: VV.undef :: VV.undef :: VV.undef :: VV.undef :: VV.undef :: VV.undef :: VV.undef :: VV.undef :: VV.undef :: VV.undef :: VV.undef :: VV.undef :: VV.undef :: VV.undef :: VV.undef :: VV.undef :: VV.undef :: VV.undef :: VV.undef :: VV.undef :: VV.undef :: VV.undef :: VV.undef :: VV.undef :: VV.undef :: VV.undef :: VV.undef :: VV.undef :: VV.undef :: VV.undef :: VV.undef :: VV.undef :: VV.undef :: VV.undef :: VV.undef :: VV.undef :: VV.undef :: VV.undef :: VV.undef :: VV.undef :: VV.undef :: VV.undef :: VV.undef :: VV.undef :: VV.undef :: VV.undef :: VV.undef :: VV.undef :: VV.undef :: VV.undef :: VV.undef :: VV.undef :: VV.undef :: VV.undef :: []) h) Q := by
  have hlt := lt_of_some hn
  have hget : ∀ A : VBlk, (h.set n A)[n]? = some A := fun A => List.getElem?_set_self hlt
  have hset2 : ∀ A B : VBlk, (h.set n A).set n B = h.set n B := fun A B => List.set_set ..
  have hlen : ∀ A : VBlk, (h.set n A).length = h.length := fun A => List.length_set
  refine loop_up (I := fun m env h' => 1 ≤ m ∧ ∃ (cur : List Fa) (k : Nat), h' = h.set n (.cells true (cur.map fF).flatten) ∧ cur.length = l.length ∧ k = (compactF (l.take (i + m))).length ∧ cur.take k = compactF (l.take (i + m)) ∧ (∀ q, i + m - 1 ≤ q → cur[q]? = l[q]?) ∧ k + 1 ≤ i + m ∧ env = ((.hs n 0 l.length 3 : VV) :: VV.undef :: VV.undef :: (.int .i64 ((k : Nat) : Int) : VV) :: (.hs n (i * 3) (l.length - i) 3 : VV) :: (.int .i64 ((m : Nat) : Int) : VV) :: VV.undef :: VV.undef :: VV.undef :: VV.undef :: VV.undef :: VV.undef :: VV.undef :: VV.undef :: VV.undef :: VV.undef :: VV.undef :: VV.undef :: VV.undef :: VV.undef :: VV.undef :: VV.undef :: VV.undef :: VV.undef :: VV.undef :: VV.undef :: VV.undef :: VV.undef :: VV.undef :: VV.undef :: VV.undef :: VV.undef :: VV.undef :: VV.undef :: VV.undef :: VV.undef :: VV.undef :: VV.undef :: VV.undef :: VV.undef :: VV.undef :: VV.undef :: VV.undef :: VV.undef :: VV.undef :: VV.undef :: VV.undef :: VV.undef :: VV.undef :: VV.undef :: VV.undef :: VV.undef :: VV.undef :: VV.undef :: VV.undef :: VV.undef :: VV.undef :: VV.undef :: VV.undef :: VV.undef :: VV.undef :: [])) (l.length - i) ?_ ?_ (i := 1) (by omega) ⟨Nat.le_refl 1, l, i, (set_same hn).symm, rfl, ?_, ?_, fun q _ => rfl, by omega, by simp -implicitDefEqProofs only [go_sem, ↓reduceIte, reduceCtorEq, Int.reduceLT, Int.reduceLE, Int.reduceToNat, Nat.reduceAdd, Nat.reduceMul, Nat.reduceLeDiff, Nat.reduceLT, Nat.reduceSub, Int.reduceNeg, Int.reduceEq, Int.reduceBEq, Int.reduceBNe, Nat.reduceEqDiff]⟩
  · rintro m env h' hm ⟨hm1, cur, k, rfl, hcl, hk, htk, hsuf, hkm, rfl⟩
    obtain ⟨x, hx⟩ := get_some (show i + m < l.length by omega)
    obtain ⟨y, hy⟩ := get_some (show i + m - 1 < l.length by omega)
    have cx : cur[i + m]? = some x := by rw [hsuf _ (by omega)]; exact hx
    have cy : cur[i + m - 1]? = some y := by rw [hsuf _ (by omega)]; exact hy
    have hm' : (m : Int) < ((l.length - i : Nat) : Int) := by omega
    have hmn : m < l.length - i := hm
    have hmn1 : m - 1 < l.length - i := by omega
    have hw := wrap_succ (i := m) (by omega)
    have hwk := wrap_succ (i := k) (by omega)
    have hw1 : IntKind.i64.wrap ((m : Int) - 1) = ((m - 1 : Nat) : Int) := by rw [wrap_id (by omega) (by omega)]; omega
    have r1 := row_at cx
    have r2 := row_at cy
    rw [show (i + m) * 3 = i * 3 + m * 3 by omega] at r1
    rw [show (i + m - 1) * 3 = i * 3 + (m - 1) * 3 by omega] at r2
    have hcells := cells_len cur
    have b1 : i * 3 + m * 3 + 3 ≤ (cur.map fF).flatten.length := by omega
    have b2 : i * 3 + (m - 1) * 3 + 3 ≤ (cur.map fF).flatten.length := by omega
    have b3 : k * 3 + 3 ≤ (cur.map fF).flatten.length := by omega
    have hkl : k < l.length := by omega
    obtain ⟨z, hz⟩ := get_some (show k < cur.length by omega)
    have hst := set_at (x := x) hz
    have hcs := compact_step (l := l) (j := i + m) (by omega) hx hy
    have hsame : x = y → compactF (l.take (i + (m + 1))) = compactF (l.take (i + m)) := fun e => by rw [← Nat.add_assoc, hcs, if_pos e, List.append_nil]
    have hdiff : x ≠ y → compactF (l.take (i + (m + 1))) = compactF (l.take (i + m)) ++ [x] := fun e => by rw [← Nat.add_assoc, hcs, if_neg e]
    have same : x = y → ∃ (cur' : List Fa) (k' : Nat), h.set n (.cells true (cur.map fF).flatten) = h.set n (.cells true (cur'.map fF).flatten) ∧ cur'.length = l.length ∧ k' = (compactF (l.take (i + (m + 1)))).length ∧ cur'.take k' = compactF (l.take (i + (m + 1))) ∧ (∀ q, i + (m + 1) - 1 ≤ q → cur'[q]? = l[q]?) ∧ k' + 1 ≤ i + (m + 1) ∧ k = k' := fun e =>
      ⟨cur, k, rfl, hcl, by rw [hsame e]; exact hk, by rw [hsame e]; exact htk, fun q hq => hsuf q (by omega), by omega, rfl⟩
    have diff : x ≠ y → (cur.set k x).length = l.length ∧ k + 1 = (compactF (l.take (i + (m + 1)))).length ∧ (cur.set k x).take (k + 1) = compactF (l.take (i + (m + 1))) ∧ (∀ q, i + (m + 1) - 1 ≤ q → (cur.set k x)[q]? = l[q]?) ∧ k + 1 + 1 ≤ i + (m + 1) := fun e => by
      refine ⟨by rw [List.length_set]; exact hcl, by rw [hdiff e, List.length_append, ← hk]; rfl, ?_, fun q hq => ?_, by omega⟩
      · rw [hdiff e, ← htk, take_succ_map (x := x) (by rw [List.getElem?_set_self (by omega)]), List.take_set_of_le (Nat.le_refl k)]
      · rw [List.getElem?_set_ne (by omega)]; exact hsuf q (by omega)
    by_cases e1 : x.k = y.k
    · by_cases e2 : x.a = y.a
      · by_cases e3 : x.b = y.b
        · simp -implicitDefEqProofs only [slices_Compact_gantryfactFact_b1, slices_Compact_gantryfactFact_b0, go_sem, ↓reduceIte, reduceCtorEq, Int.reduceLT, Int.reduceLE, Int.reduceToNat, Nat.reduceAdd, Nat.reduceMul, Nat.reduceLeDiff, Nat.reduceLT, Nat.reduceSub, Int.reduceNeg, Int.reduceEq, Int.reduceBEq, Int.reduceBNe, Nat.reduceEqDiff, hm', hmn, hmn1, hget, r1, r2, b1, b2, hw, hw1, hlen, e1, e2, e3]
          obtain ⟨cur', k', q1, q2, q3, q4, q5, q6, rfl⟩ := same (by cases x; cases y; simp at e1 e2 e3; simp [e1, e2, e3])
          exact ⟨cur', k, q1, q2, q3, q4, q5, q6, rfl⟩
        · rw [e1, e2] at hst
          simp -implicitDefEqProofs only [slices_Compact_gantryfactFact_b1, slices_Compact_gantryfactFact_b0, go_sem, ↓reduceIte, reduceCtorEq, Int.reduceLT, Int.reduceLE, Int.reduceToNat, Nat.reduceAdd, Nat.reduceMul, Nat.reduceLeDiff, Nat.reduceLT, Nat.reduceSub, Int.reduceNeg, Int.reduceEq, Int.reduceBEq, Int.reduceBNe, Nat.reduceEqDiff, hm', hmn, hmn1, hget, r1, r2, b1, b2, b3, hw, hw1, hwk, hkl, hlo, hlen, hst, hset2, e1, e2, e3]
          obtain ⟨q1, q2, q3, q4, q5⟩ := diff fun e => e3 (by rw [e])
          exact ⟨cur.set k x, k + 1, rfl, q1, q2, q3, q4, q5, rfl⟩
      · rw [e1] at hst
        simp -implicitDefEqProofs only [slices_Compact_gantryfactFact_b1, slices_Compact_gantryfactFact_b0, go_sem, ↓reduceIte, reduceCtorEq, Int.reduceLT, Int.reduceLE, Int.reduceToNat, Nat.reduceAdd, Nat.reduceMul, Nat.reduceLeDiff, Nat.reduceLT, Nat.reduceSub, Int.reduceNeg, Int.reduceEq, Int.reduceBEq, Int.reduceBNe, Nat.reduceEqDiff, hm', hmn, hmn1, hget, r1, r2, b1, b2, b3, hw, hw1, hwk, hkl, hlo, hlen, hst, hset2, e1, e2]
        obtain ⟨q1, q2, q3, q4, q5⟩ := diff fun e => e2 (by rw [e])
        exact ⟨cur.set k x, k + 1, rfl, q1, q2, q3, q4, q5, rfl⟩
    · simp -implicitDefEqProofs only [slices_Compact_gantryfactFact_b1, slices_Compact_gantryfactFact_b0, go_sem, ↓reduceIte, reduceCtorEq, Int.reduceLT, Int.reduceLE, Int.reduceToNat, Nat.reduceAdd, Nat.reduceMul, Nat.reduceLeDiff, Nat.reduceLT, Nat.reduceSub, Int.reduceNeg, Int.reduceEq, Int.reduceBEq, Int.reduceBNe, Nat.reduceEqDiff, hm', hmn, hmn1, hget, r1, r2, b1, b2, b3, hw, hw1, hwk, hkl, hlo, hlen, hst, hset2, e1]
      obtain ⟨q1, q2, q3, q4, q5⟩ := diff fun e => e1 (by rw [e])
      exact ⟨cur.set k x, k + 1, rfl, q1, q2, q3, q4, q5, rfl⟩
  · rintro env h' ⟨_, cur, k, rfl, hcl, hk, htk, hsuf, hkm, rfl⟩
    simp -implicitDefEqProofs only [slices_Compact_gantryfactFact_b1, slices_Compact_gantryfactFact_b0, go_sem, ↓reduceIte, reduceCtorEq, Int.reduceLT, Int.reduceLE, Int.reduceToNat, Nat.reduceAdd, Nat.reduceMul, Nat.reduceLeDiff, Nat.reduceLT, Nat.reduceSub, Int.reduceNeg, Int.reduceEq, Int.reduceBEq, Int.reduceBNe, Nat.reduceEqDiff, Int.lt_irrefl]
    rw [show i + (l.length - i) = l.length by omega, List.take_length] at hk htk
    exact hQ cur k hcl hk htk (by omega)
  · rw [hdup, hd, List.length_take, Nat.min_eq_left (by omega)]
  · rw [hdup, hd]
end Vg.G3
namespace Vg.G3
open Go Lg
set_option linter.unusedSimpArgs false
set_option maxRecDepth 10000
set_option maxHeartbeats 2000000
attribute [local congr] bind_congr1
attribute [local go_sem] slices_Compact_gantryfactFact_r0 slices_Compact_gantryfactFact_r1 slices_Compact_gantryfactFact_r2 slices_Compact_gantryfactFact_r3 slices_Compact_gantryfactFact_r4 slices_Compact_gantryfactFact_r5 slices_Compact_gantryfactFact_r5_d slices_Compact_gantryfactFact_r6 slices_Compact_gantryfactFact_r7 slices_Compact_gantryfactFact_r8 slices_Compact_gantryfactFact_r9 slices_Compact_gantryfactFact_r9_d slices_Compact_gantryfactFact_r10 slices_Compact_gantryfactFact_r11 slices_Compact_gantryfactFact_r12 slices_Compact_gantryfactFact_r13 slices_Compact_gantryfactFact_r14 slices_Compact_gantryfactFact_r15 slices_Compact_gantryfactFact_r16 slices_Compact_gantryfactFact_f slices_Compact_gantryfactFact_v

def zr3 : List LV := [.int .i64 0, .int .i64 0, .int .i64 0]
theorem zrows_len (n : Nat) : (rows zr3 n).length = n * 3 := by rw [rows_length]; rfl
theorem zrows_sc : ∀ n : Nat, (rows zr3 n).all scLV = true
  | 0 => rfl
  | n + 1 => by simp only [rows, List.all_append, zrows_sc n, Bool.and_true]; rfl
theorem Compact_spec {l : List Fa} {n lo : Nat} {h : VHeap} (hl : l.length ≤ 1000) (hne : 1 ≤ l.length) (hlo : lo ≤ n) (hn : h[n]? = some (.cells true (l.map fF).flatten)) :
    ∃ cs, callVL vp lo n_slices_Compact_gantryfactFact [.hs n 0 l.length 3] h = some (.hs n 0 (compactF l).length 3, h.set n (.cells true cs)) ∧ (compactF l).length * 3 ≤ cs.length ∧ cs.take ((compactF l).length * 3) = ((compactF l).map fF).flatten := by
  obtain ⟨P, hP⟩ : ∃ P : VV × VHeap → Prop, P = fun r => ∃ cs, r = (.hs n 0 (compactF l).length 3, h.set n (.cells true cs)) ∧ (compactF l).length * 3 ≤ cs.length ∧ cs.take ((compactF l).length * 3) = ((compactF l).map fF).flatten := ⟨_, rfl⟩
  have key := call_body (p := vp) (lo := lo) (h := h) (f := n_slices_Compact_gantryfactFact) (fn := slices_Compact_gantryfactFact_v) (args := [.hs n 0 l.length 3]) (P := P) rfl (.inr rfl) rfl ?_
  · obtain ⟨r, hr, hp⟩ := key; subst hP; obtain ⟨cs, rfl, hA⟩ := hp; exact ⟨cs, hr, hA⟩
  have hP1 : ∀ cs, (compactF l).length * 3 ≤ cs.length → cs.take ((compactF l).length * 3) = ((compactF l).map fF).flatten → P (.hs n 0 (compactF l).length 3, h.set n (.cells true cs)) := fun cs h1 h2 => by subst hP; exact ⟨cs, rfl, h1, h2⟩
  clear hP
  have hlt := lt_of_some hn
  have hsame : compactF l = l → P (.hs n 0 l.length 3, h) := fun e => by
    have := hP1 (l.map fF).flatten (by rw [e, cells_len]; exact Nat.le_refl _) (by rw [e, ← cells_len, List.take_length])
    rwa [e, set_same hn] at this
  by_cases h2 : (l.length : Int) < 2
  · simp -implicitDefEqProofs only [go_sem, ↓reduceIte, reduceCtorEq, Int.reduceLT, Int.reduceLE, Int.reduceToNat, Nat.reduceAdd, Nat.reduceMul, Nat.reduceLeDiff, Nat.reduceLT, Nat.reduceSub, Int.reduceNeg, Int.reduceEq, Int.reduceBEq, Int.reduceBNe, Nat.reduceEqDiff, h2]
    refine hsame ?_
    match l, hne, h2 with
    | [x], _, _ => rfl
  simp -implicitDefEqProofs only [go_sem, ↓reduceIte, reduceCtorEq, Int.reduceLT, Int.reduceLE, Int.reduceToNat, Nat.reduceAdd, Nat.reduceMul, Nat.reduceLeDiff, Nat.reduceLT, Nat.reduceSub, Int.reduceNeg, Int.reduceEq, Int.reduceBEq, Int.reduceBNe, Nat.reduceEqDiff, h2]
  rw [Sat_bind]
  refine loop_up (I := fun i env h' => h' = h ∧ 1 ≤ i ∧ compactF (l.take i) = l.take i ∧ env = ((.hs n 0 l.length 3 : VV) :: VV.undef :: VV.undef :: (.int .i64 ((i : Nat) : Int) : VV) :: VV.undef :: VV.undef :: VV.undef :: VV.undef :: VV.undef :: VV.undef :: VV.undef :: VV.undef :: VV.undef :: VV.undef :: VV.undef :: VV.undef :: VV.undef :: VV.undef :: VV.undef :: VV.undef :: VV.undef :: VV.undef :: VV.undef :: VV.undef :: VV.undef :: VV.undef :: VV.undef :: VV.undef :: VV.undef :: VV.undef :: VV.undef :: VV.undef :: VV.undef :: VV.undef :: VV.undef :: VV.undef :: VV.undef :: VV.undef :: VV.undef :: VV.undef :: VV.undef :: VV.undef :: VV.undef :: VV.undef :: VV.undef :: VV.undef :: VV.undef :: VV.undef :: VV.undef :: VV.undef :: VV.undef :: VV.undef :: VV.undef :: VV.undef :: VV.undef :: VV.undef :: VV.undef :: VV.undef :: VV.undef :: VV.undef :: VV.undef :: [])) l.length ?_ ?_ (i := 1) hne ⟨rfl, Nat.le_refl 1, ?_, by simp -implicitDefEqProofs only [go_sem, ↓reduceIte, reduceCtorEq, Int.reduceLT, Int.reduceLE, Int.reduceToNat, Nat.reduceAdd, Nat.reduceMul, Nat.reduceLeDiff, Nat.reduceLT, Nat.reduceSub, Int.reduceNeg, Int.reduceEq, Int.reduceBEq, Int.reduceBNe, Nat.reduceEqDiff]⟩
  · rintro i env h' hi ⟨rfl, hi1, hd, rfl⟩
    obtain ⟨x, hx⟩ := get_some hi
    obtain ⟨y, hy⟩ := get_some (show i - 1 < l.length by omega)
    have hi' : (i : Int) < (l.length : Int) := by omega
    have hi2 : i - 1 < l.length := by omega
    have hw := wrap_succ (i := i) (by omega)
    have hw1 : IntKind.i64.wrap ((i : Int) - 1) = ((i - 1 : Nat) : Int) := by rw [wrap_id (by omega) (by omega)]; omega
    have r1 := row_at hx
    have r2 := row_at hy
    have hcells := cells_len l
    have b1 : i * 3 + 3 ≤ (l.map fF).flatten.length := by omega
    have b2 : (i - 1) * 3 + 3 ≤ (l.map fF).flatten.length := by omega
    have hcs := compact_step hi1 hx hy
    have next : x ≠ y → compactF (l.take (i + 1)) = l.take (i + 1) := fun e => by
      rw [hcs, if_neg e, hd, take_succ_map hx]
    by_cases e1 : x.k = y.k
    · by_cases e2 : x.a = y.a
      · by_cases e3 : x.b = y.b
        · have e : x = y := by cases x; cases y; simp at e1 e2 e3; simp [e1, e2, e3]
          have hle : i ≤ l.length := by omega
          simp -implicitDefEqProofs only [slices_Compact_gantryfactFact_b0, go_sem, ↓reduceIte, reduceCtorEq, Int.reduceLT, Int.reduceLE, Int.reduceToNat, Nat.reduceAdd, Nat.reduceMul, Nat.reduceLeDiff, Nat.reduceLT, Nat.reduceSub, Int.reduceNeg, Int.reduceEq, Int.reduceBEq, Int.reduceBNe, Nat.reduceEqDiff, hi, hi', hi2, hn, r1, r2, b1, b2, hw1, e1, e2, e3, hle]
          rw [Sat_bind]
          refine Compact_in hi hi1 hl hlo hn hd (by rw [hcs, if_pos e, List.append_nil]) _ ?_
          intro cur k hcl hk htk hkl
          have hget : ∀ A : VBlk, (h'.set n A)[n]? = some A := fun A => List.getElem?_set_self hlt
          have hset2 : ∀ A B : VBlk, (h'.set n A).set n B = h'.set n B := fun A B => List.set_set ..
          have hk1 : k ≤ l.length := by omega
          have hk0 : ¬ (l.length - k = 0) := by omega
          have hcc := cells_len cur
          have b3 : k * 3 + (l.length - k) * 3 ≤ (cur.map fF).flatten.length := by omega
          have hz1 := zrows_len (l.length - k)
          have hz2 := zrows_sc (l.length - k)
          have hrw : rwE (.clear [.int .i64 0, .int .i64 0, .int .i64 0]) (l.length - k) (((cur.map fF).flatten.drop (k * 3)).take ((l.length - k) * 3) |>.map VV.sc) = some (rows zr3 (l.length - k)) := rfl
          simp -implicitDefEqProofs only [slices_Compact_gantryfactFact_b0, go_sem, ↓reduceIte, reduceCtorEq, Int.reduceLT, Int.reduceLE, Int.reduceToNat, Nat.reduceAdd, Nat.reduceMul, Nat.reduceLeDiff, Nat.reduceLT, Nat.reduceSub, Int.reduceNeg, Int.reduceEq, Int.reduceBEq, Int.reduceBNe, Nat.reduceEqDiff, hget, hset2, hk1, hk0, b3, hrw, hz1, hz2, hlo]
          rw [hk]
          refine hP1 _ ?_ ?_
          · simp only [List.length_append, List.length_take, List.length_drop, ← hk]
            omega
          · rw [← hk, List.append_assoc, List.take_append_of_le_length (by rw [List.length_take]; omega), List.take_take, Nat.min_self, ← htk, flat_take _ _ (flen fF_len cur), List.map_take]
        · simp -implicitDefEqProofs only [slices_Compact_gantryfactFact_b0, go_sem, ↓reduceIte, reduceCtorEq, Int.reduceLT, Int.reduceLE, Int.reduceToNat, Nat.reduceAdd, Nat.reduceMul, Nat.reduceLeDiff, Nat.reduceLT, Nat.reduceSub, Int.reduceNeg, Int.reduceEq, Int.reduceBEq, Int.reduceBNe, Nat.reduceEqDiff, hi, hi', hi2, hn, r1, r2, b1, b2, hw, hw1, e1, e2, e3]
          exact next fun e => e3 (by rw [e])
      · simp -implicitDefEqProofs only [slices_Compact_gantryfactFact_b0, go_sem, ↓reduceIte, reduceCtorEq, Int.reduceLT, Int.reduceLE, Int.reduceToNat, Nat.reduceAdd, Nat.reduceMul, Nat.reduceLeDiff, Nat.reduceLT, Nat.reduceSub, Int.reduceNeg, Int.reduceEq, Int.reduceBEq, Int.reduceBNe, Nat.reduceEqDiff, hi, hi', hi2, hn, r1, r2, b1, b2, hw, hw1, e1, e2]
        exact next fun e => e2 (by rw [e])
    · simp -implicitDefEqProofs only [slices_Compact_gantryfactFact_b0, go_sem, ↓reduceIte, reduceCtorEq, Int.reduceLT, Int.reduceLE, Int.reduceToNat, Nat.reduceAdd, Nat.reduceMul, Nat.reduceLeDiff, Nat.reduceLT, Nat.reduceSub, Int.reduceNeg, Int.reduceEq, Int.reduceBEq, Int.reduceBNe, Nat.reduceEqDiff, hi, hi', hi2, hn, r1, r2, b1, b2, hw, hw1, e1]
      exact next fun e => e1 (by rw [e])
  · rintro env h' ⟨rfl, hi1, hd, rfl⟩
    simp -implicitDefEqProofs only [slices_Compact_gantryfactFact_b0, go_sem, ↓reduceIte, reduceCtorEq, Int.reduceLT, Int.reduceLE, Int.reduceToNat, Nat.reduceAdd, Nat.reduceMul, Nat.reduceLeDiff, Nat.reduceLT, Nat.reduceSub, Int.reduceNeg, Int.reduceEq, Int.reduceBEq, Int.reduceBNe, Nat.reduceEqDiff, Int.lt_irrefl]
    rw [List.take_length] at hd
    exact hsame hd
  · match l, hne with
    | x :: r, _ => rfl
end Vg.G3
namespace Vg.G3
open Go Lg
set_option linter.unusedSimpArgs false
set_option maxRecDepth 10000
set_option maxHeartbeats 2000000
attribute [local congr] bind_congr1
attribute [local go_sem] slices_SortFunc_gantryfactFact_f slices_SortFunc_gantryfactFact_v slices_Compact_gantryfactFact_r0 slices_Compact_gantryfactFact_r1 slices_Compact_gantryfactFact_r2 slices_Compact_gantryfactFact_r3 slices_Compact_gantryfactFact_r4 slices_Compact_gantryfactFact_r5 slices_Compact_gantryfactFact_r5_d slices_Compact_gantryfactFact_r6 slices_Compact_gantryfactFact_r7 slices_Compact_gantryfactFact_r8 slices_Compact_gantryfactFact_r9 slices_Compact_gantryfactFact_r9_d slices_Compact_gantryfactFact_r10 slices_Compact_gantryfactFact_r11 slices_Compact_gantryfactFact_r12 slices_Compact_gantryfactFact_r13 slices_Compact_gantryfactFact_r14 slices_Compact_gantryfactFact_r15 slices_Compact_gantryfactFact_r16 slices_Compact_gantryfactFact_f slices_Compact_gantryfactFact_v

def toI (f : Fa) : List Int := [f.k, f.a, f.b]
def ofI : List Int → Fa
  | [k, a, b] => ⟨k, a, b⟩
  | _ => ⟨0, 0, 0⟩
def sortFa (l : List Fa) : List Fa := (sortI (l.map toI)).map ofI
theorem sort_toI (l : List Fa) : (sortFa l).map toI = sortI (l.map toI) := by
  unfold sortFa
  rw [List.map_map]
  conv => rhs; rw [← List.map_id (sortI (l.map toI))]
  refine List.map_congr_left fun r hr => ?_
  have h1 : r ∈ l.map toI := (List.mergeSort_perm (l.map toI) _).mem_iff.1 hr
  obtain ⟨f, _, rfl⟩ := List.mem_map.1 h1
  rfl
theorem sort_len (l : List Fa) : (sortFa l).length = l.length := by
  have := congrArg List.length (sort_toI l)
  rw [List.length_map] at this
  rw [this, sortI, List.length_mergeSort, List.length_map]
theorem sort_mem (x : Fa) (l : List Fa) : x ∈ sortFa l ↔ x ∈ l := by
  have inj : ∀ {f g : Fa}, toI f = toI g → f = g := fun {f g} h => by cases f; cases g; simp [toI] at h; simp [h]
  have h1 : toI x ∈ (sortFa l).map toI ↔ toI x ∈ l.map toI := by rw [sort_toI]; exact (List.mergeSort_perm (l.map toI) _).mem_iff
  constructor
  · intro h
    obtain ⟨y, hy, e⟩ := List.mem_map.1 (h1.1 (List.mem_map_of_mem h))
    exact inj e ▸ hy
  · intro h
    obtain ⟨y, hy, e⟩ := List.mem_map.1 (h1.2 (List.mem_map_of_mem h))
    exact inj e ▸ hy
theorem ints_of (l : List Fa) : intsOf ((l.map fF).flatten.map VV.sc) = some (l.map toI).flatten := by
  induction l with
  | nil => rfl
  | cons f l ih => simp [fF, toI, VV.sc, intsOf] at ih ⊢; rw [ih]
theorem chunk_of (l : List Fa) : chunkI 3 l.length (l.map toI).flatten = l.map toI := by
  induction l with
  | nil => rfl
  | cons f l ih =>
    simp only [List.length_cons, chunkI, List.map_cons, List.flatten_cons, toI]
    congr 1
theorem rw_sort (l : List Fa) (hl : l.length ≤ 1000) : rwE (.sort 3) l.length ((l.map fF).flatten.map VV.sc) = some ((sortFa l).map toI |>.flatten |>.map fun n => LV.int .i64 n) := by
  simp only [rwE, ints_of, chunk_of, sort_toI]
  rw [if_pos (by omega)]
theorem cells_of (l : List Fa) : ofLVs ((l.map toI).flatten.map fun n => LV.int .i64 n) = (l.map fF).flatten := by
  rw [ofLVs_eq]
  induction l with
  | nil => rfl
  | cons f l ih => simp [toI, fF, ofLV] at ih ⊢; exact ih
theorem sc_of (l : List Fa) : ((l.map toI).flatten.map fun n => LV.int .i64 n).all scLV = true := by
  rw [List.all_eq_true]; intro x hx; obtain ⟨n, _, rfl⟩ := List.mem_map.1 hx; rfl
theorem toI_len (l : List Fa) : ((l.map toI).flatten.map fun n => LV.int .i64 n).length = l.length * 3 := by
  rw [List.length_map]
  induction l with
  | nil => rfl
  | cons f l ih => simp [toI] at ih ⊢; omega
theorem Sort_spec {l : List Fa} {n lo : Nat} {h : VHeap} (hl : l.length ≤ 1000) (hne : 1 ≤ l.length) (hlo : lo ≤ n) (hn : h[n]? = some (.cells true (l.map fF).flatten)) :
    callVL vp lo n_slices_SortFunc_gantryfactFact [.hs n 0 l.length 3, .func 54 []] h = some (.tup [], h.set n (.cells true ((sortFa l).map fF).flatten)) := by
  have key := call_body (p := vp) (lo := lo) (h := h) (f := n_slices_SortFunc_gantryfactFact) (fn := slices_SortFunc_gantryfactFact_v) (args := [.hs n 0 l.length 3, .func 54 []]) (P := fun r => r = (.tup [], h.set n (.cells true ((sortFa l).map fF).flatten))) rfl (.inr rfl) rfl ?_
  · obtain ⟨r, hr, rfl⟩ := key; exact hr
  have h0 : ¬ (l.length = 0) := by omega
  have hc := cells_len l
  have hle : l.length * 3 ≤ (l.map fF).flatten.length := by omega
  have ht : (l.map fF).flatten.take (l.length * 3) = (l.map fF).flatten := List.take_of_length_le (by omega)
  have hr := rw_sort l hl
  have h1 := toI_len (sortFa l)
  rw [sort_len] at h1
  have h2 := sc_of (sortFa l)
  have h3 := cells_of (sortFa l)
  have h4 := cells_len (sortFa l)
  rw [sort_len] at h4
  have hd : (l.map fF).flatten.drop (l.length * 3) = [] := List.drop_eq_nil_of_le (by omega)
  simp -implicitDefEqProofs only [go_sem, ↓reduceIte, reduceCtorEq, Int.reduceLT, Int.reduceLE, Int.reduceToNat, Nat.reduceAdd, Nat.reduceMul, Nat.reduceLeDiff, Nat.reduceLT, Nat.reduceSub, Int.reduceNeg, Int.reduceEq, Int.reduceBEq, Int.reduceBNe, Nat.reduceEqDiff, sortF, h0, hn, hlo, hle, ht, hr, h1, h2, h3, h4, hd]
theorem Sort_spec0 {lo : Nat} {h : VHeap} : callVL vp lo n_slices_SortFunc_gantryfactFact [.list .s [], .func 54 []] h = some (.tup [], h) := by
  have key := call_body (p := vp) (lo := lo) (h := h) (f := n_slices_SortFunc_gantryfactFact) (fn := slices_SortFunc_gantryfactFact_v) (args := [.list .s [], .func 54 []]) (P := fun r => r = (.tup [], h)) rfl (.inr rfl) rfl ?_
  · obtain ⟨r, hr, rfl⟩ := key; exact hr
  simp -implicitDefEqProofs only [go_sem, ↓reduceIte, reduceCtorEq, Int.reduceLT, Int.reduceLE, Int.reduceToNat, Nat.reduceAdd, Nat.reduceMul, Nat.reduceLeDiff, Nat.reduceLT, Nat.reduceSub, Int.reduceNeg, Int.reduceEq, Int.reduceBEq, Int.reduceBNe, Nat.reduceEqDiff, sortF]
theorem Compact_spec0 {lo : Nat} {h : VHeap} : callVL vp lo n_slices_Compact_gantryfactFact [.list .s []] h = some (.list .s [], h) := by
  have key := call_body (p := vp) (lo := lo) (h := h) (f := n_slices_Compact_gantryfactFact) (fn := slices_Compact_gantryfactFact_v) (args := [.list .s []]) (P := fun r => r = (.list .s [], h)) rfl (.inr rfl) rfl ?_
  · obtain ⟨r, hr, rfl⟩ := key; exact hr
  simp -implicitDefEqProofs only [go_sem, ↓reduceIte, reduceCtorEq, Int.reduceLT, Int.reduceLE, Int.reduceToNat, Nat.reduceAdd, Nat.reduceMul, Nat.reduceLeDiff, Nat.reduceLT, Nat.reduceSub, Int.reduceNeg, Int.reduceEq, Int.reduceBEq, Int.reduceBNe, Nat.reduceEqDiff, Int.reduceLT]
theorem fz_hs2 {h : VHeap} {base n len es : Nat} {rows : List (List VV)} {cs : List VV} (hb : base ≤ n) (hn : h[n]? = some (.cells true cs)) (hl : len = rows.length) (hle : len * es ≤ cs.length) (hcs : cs.take (len * es) = rows.flatten) (hr : ∀ r ∈ rows, r.length = es) (hs : ∀ r ∈ rows, r.all scal = true) :
    fz h base (.hs n 0 len es) = some (.list .s rows) := by
  subst hl
  have h2 := all_flat hs
  unfold fz
  rw [fzN]
  simp only [hb, if_true, hn, Nat.zero_add, hle, List.drop_zero, hcs]
  rw [scals_fz h2]
  simp only [scals_low h2, if_true]
  rw [chunk_flat rows hr]
end Vg.G3
namespace Vg.G3
open Go Lg
set_option linter.unusedSimpArgs false
set_option maxRecDepth 10000
set_option maxHeartbeats 2000000
attribute [local congr] bind_congr1
attribute [local go_sem] fact_Of_r0 fact_Of_r1 fact_Of_r2 fact_Of_r3 fact_Of_r4 fact_Of_r5 fact_Of_r6 fact_Of_r7 fact_Of_r8 fact_Of_r9 fact_Of_f fact_Of_v

def ofF (l : List Fa) : List Fa := compactF (sortFa (l.filter validF))
theorem of_mem (x : Fa) (l : List Fa) : x ∈ ofF l ↔ x ∈ l ∧ validF x = true := by
  rw [ofF, compact_mem, sort_mem, List.mem_filter]
theorem of_len (l : List Fa) : (ofF l).length ≤ l.length := by
  have h1 := compact_len (sortFa (l.filter validF))
  rw [sort_len] at h1
  exact Nat.le_trans h1 (List.length_filter_le _ _)
theorem filter_snoc {l : List Fa} {i : Nat} {x : Fa} (h : l[i]? = some x) : (l.take (i + 1)).filter validF = (l.take i).filter validF ++ (if validF x = true then [x] else []) := by
  rw [take_succ_map h, List.filter_append]
  congr 1
  by_cases hv : validF x = true <;> simp [hv]
/-- A list that is being built, to be written. -/
def Bld (acc : List Fa) (v : VV) (h : VHeap) : Prop := (acc = [] ∧ v = .list .f []) ∨ ∃ m, 1 ≤ acc.length ∧ v = .hs m 0 acc.length 3 ∧ h[m]? = some (.cells true (acc.map fF).flatten)
theorem fF_scal {l : List Fa} : ∀ r ∈ l.map fF, r.all scal = true := fun r hr => by obtain ⟨w, _, rfl⟩ := List.mem_map.1 hr; rfl
theorem show_of (l : List Fa) : ((l.map fF).flatten.map fun c => c.sh.ow) = (l.map fF).flatten := scals_show (all_flat fF_scal)
theorem Of_spec (l : List Fa) (hl : l.length ≤ 1000) (lo : Nat) (h : VHeap) : callVL vp lo n_fact_Of [.list .s (l.map fF)] h = some (.list .s ((ofF l).map fF), h) := by
  refine call_valE (fn := fact_Of_v) rfl rfl rfl rfl rfl ?_ lo h
  generalize hT : (ofF l).map fF = T
  obtain ⟨P, hP⟩ : ∃ P : VV → Prop, P = fun w : VV => w = .list .s T := ⟨_, rfl⟩
  have hP1 : P (.list .s T) := by subst hP; rfl
  have hP2 : (fun r : VV × VHeap => r.1 = .list .s T) = fun r => P r.1 := by subst hP; rfl
  rw [hP2]
  clear hP hP2
  simp -implicitDefEqProofs only [go_sem, ↓reduceIte, reduceCtorEq, Int.reduceLT, Int.reduceLE, Int.reduceToNat, Nat.reduceAdd, Nat.reduceMul, Nat.reduceLeDiff, Nat.reduceLT, Nat.reduceSub, Int.reduceNeg, Int.reduceEq, Int.reduceBEq, Int.reduceBNe, Nat.reduceEqDiff]
  rw [Sat_bind]
  refine loop_up (I := fun i env h' => ∃ v, Bld ((l.take i).filter validF) v h' ∧ env = [.undef, .undef, .undef, v, .undef, .undef, .list .s (l.map fF), .int .i64 ((l.length : Nat) : Int), .int .i64 ((i : Nat) : Int), .undef, .undef, .undef, .undef, .undef, .undef, .undef, .undef, .undef, .undef, .undef, .undef, .undef, .undef]) l.length ?_ ?_ (Nat.zero_le _) ⟨.list .f [], .inl ⟨rfl, rfl⟩, by simp -implicitDefEqProofs only [go_sem, ↓reduceIte, reduceCtorEq, Int.reduceLT, Int.reduceLE, Int.reduceToNat, Nat.reduceAdd, Nat.reduceMul, Nat.reduceLeDiff, Nat.reduceLT, Nat.reduceSub, Int.reduceNeg, Int.reduceEq, Int.reduceBEq, Int.reduceBNe, Nat.reduceEqDiff]⟩
  · rintro i env h' hi ⟨v, hv, rfl⟩
    obtain ⟨x, hx⟩ := get_some hi
    have hg := get_map (F := fF) hx
    have hi' : (i : Int) < (l.length : Int) := by omega
    have hw := wrap_succ (i := i) (by omega)
    have hV := Valid_spec x
    have hfs := filter_snoc hx
    simp only [fF] at hg hV
    have hb1 : ∀ (h' : VHeap) (a : VBlk), (h' ++ [a])[h'.length]? = some a := fun h' a => List.getElem?_concat_length
    have hb2 : ∀ (h' : VHeap) (a b : VBlk), (h' ++ [a]).set h'.length b = h' ++ [b] := fun h' a b => by rw [List.set_append_right _ _ (Nat.le_refl _), Nat.sub_self]; rfl
    have hb3 : ∀ (h' : VHeap) (a : VBlk), (h' ++ [a]).length = h'.length + 1 := fun h' a => by simp
    have hb4 : ∀ (h' : VHeap) (a : VBlk), (h' ++ [a]).take h'.length = h' := fun h' a => List.take_left ..
    by_cases hvx : validF x = true
    · rw [if_pos hvx] at hfs
      have hacc : ((l.take i).filter validF).length ≤ 1000 := by
        have := List.length_filter_le validF (l.take i)
        rw [List.length_take] at this; omega
      generalize (l.take i).filter validF = acc at *
      rcases hv with ⟨rfl, rfl⟩ | ⟨m, ha, rfl, hm⟩
      · simp -implicitDefEqProofs only [fact_Of_b0, go_sem, ↓reduceIte, reduceCtorEq, Int.reduceLT, Int.reduceLE, Int.reduceToNat, Nat.reduceAdd, Nat.reduceMul, Nat.reduceLeDiff, Nat.reduceLT, Nat.reduceSub, Int.reduceNeg, Int.reduceEq, Int.reduceBEq, Int.reduceBNe, Nat.reduceEqDiff, hi', hg, hV, hvx, hw, hb1, hb2, hb3]
        refine ⟨_, .inr ⟨h'.length + 1, by rw [hfs]; simp, ?_, ?_⟩, rfl⟩
        · rw [hfs]; rfl
        · rw [if_neg (by omega)]
          have hs := show_of [x]
          have e : List.length h' + 1 = (h' ++ [VBlk.cells true (fF x)]).length := by rw [List.length_append]; rfl
          rw [hfs, List.nil_append, ← hs]
          rw [e]
          exact List.getElem?_concat_length
      · have hm' : ∀ a : VBlk, (h' ++ [a])[m]? = some (.cells true (acc.map fF).flatten) := fun a => by rw [List.getElem?_append_left (lt_of_getElem? hm)]; exact hm
        have hr : (acc.length + 1 + 512) * 24 ≤ 140737488355328 := Nat.le_trans (Nat.mul_le_mul_right 24 (show acc.length + 1 + 512 ≤ 2000 by omega)) (by decide)
        have hc := cells_len acc
        have hle : acc.length * 3 ≤ (acc.map fF).flatten.length := by omega
        have ht : (acc.map fF).flatten.take (acc.length * 3) = (acc.map fF).flatten := List.take_of_length_le (by omega)
        simp -implicitDefEqProofs only [fact_Of_b0, go_sem, ↓reduceIte, reduceCtorEq, Int.reduceLT, Int.reduceLE, Int.reduceToNat, Nat.reduceAdd, Nat.reduceMul, Nat.reduceLeDiff, Nat.reduceLT, Nat.reduceSub, Int.reduceNeg, Int.reduceEq, Int.reduceBEq, Int.reduceBNe, Nat.reduceEqDiff, hi', hg, hV, hvx, hw, hb1, hb2, hb3, hm', hr, hle, ht]
        refine ⟨_, .inr ⟨h'.length + 1, by rw [hfs]; simp, ?_, ?_⟩, rfl⟩
        · rw [hfs, List.length_append]; rfl
        · rw [if_neg (by omega)]
          have hs : ((acc.map fF).flatten ++ [fF x].flatten).map (fun c => c.sh.ow) = ((acc ++ [x]).map fF).flatten := by
            rw [List.map_append, List.map_append, List.flatten_append, show_of acc]
            exact congrArg _ (show_of [x])
          have e : List.length h' + 1 = ((h' ++ [VBlk.cells true (fF x)]).set m .dead).length := by rw [List.length_set, List.length_append]; rfl
          rw [hfs, ← hs]
          rw [e]
          exact List.getElem?_concat_length
    · rw [if_neg hvx, List.append_nil] at hfs
      simp -implicitDefEqProofs only [fact_Of_b0, go_sem, ↓reduceIte, reduceCtorEq, Int.reduceLT, Int.reduceLE, Int.reduceToNat, Nat.reduceAdd, Nat.reduceMul, Nat.reduceLeDiff, Nat.reduceLT, Nat.reduceSub, Int.reduceNeg, Int.reduceEq, Int.reduceBEq, Int.reduceBNe, Nat.reduceEqDiff, hi', hg, hV, hvx, hw, hb1, hb2, hb3, hb4]
      refine ⟨v, ?_, rfl⟩
      rw [hfs]
      rcases hv with ⟨ha, rfl⟩ | ⟨m, ha, rfl, hm⟩
      · exact .inl ⟨ha, rfl⟩
      · refine .inr ⟨m, ha, rfl, ?_⟩
        split
        · exact hm
        · rw [List.getElem?_append_left (lt_of_getElem? hm)]; exact hm
  · rintro env h' ⟨v, hv, rfl⟩
    rcases hv with ⟨ha, rfl⟩ | ⟨m, ha, rfl, hm⟩
    · have h1 := @Sort_spec0
      have h2 := @Compact_spec0
      simp -implicitDefEqProofs only [fact_Of_b0, go_sem, ↓reduceIte, reduceCtorEq, Int.reduceLT, Int.reduceLE, Int.reduceToNat, Nat.reduceAdd, Nat.reduceMul, Nat.reduceLeDiff, Nat.reduceLT, Nat.reduceSub, Int.reduceNeg, Int.reduceEq, Int.reduceBEq, Int.reduceBNe, Nat.reduceEqDiff, Int.lt_irrefl, h1, h2]
      rw [List.take_length] at ha
      have : T = [] := by rw [← hT, ofF, ha]; simp [sortFa, sortI, compactF]
      rw [← this]; exact hP1
    · rw [List.take_length] at ha hm
      have hacc : (l.filter validF).length ≤ 1000 := Nat.le_trans (List.length_filter_le _ _) hl
      have h1 := Sort_spec (lo := 0) hacc ha (Nat.zero_le m) hm
      have hlen := sort_len (l.filter validF)
      rw [List.take_length]
      generalize hL : l.filter validF = L at *
      obtain ⟨cs, h2, h3, h4⟩ := Compact_spec (l := sortFa L) (lo := 0) (h := h'.set m (.cells true ((sortFa L).map fF).flatten)) (n := m) (by omega) (by omega) (Nat.zero_le m) (by rw [List.getElem?_set_self (lt_of_getElem? hm)])
      rw [hlen] at h2
      have h5 : fz ((h'.set m (.cells true ((sortFa L).map fF).flatten)).set m (.cells true cs)) 0 (.hs m 0 (compactF (sortFa L)).length 3) = some (.list .s T) := by
        rw [fz_hs2 (rows := (compactF (sortFa L)).map fF) (cs := cs) (Nat.zero_le m) (by rw [List.getElem?_set_self (by rw [List.length_set]; exact lt_of_getElem? hm)]) (List.length_map ..).symm h3 h4 (fun r hr => by obtain ⟨w, _, rfl⟩ := List.mem_map.1 hr; rfl) fF_scal]
        rw [← hT, ofF, hL]
      simp -implicitDefEqProofs only [fact_Of_b0, go_sem, ↓reduceIte, reduceCtorEq, Int.reduceLT, Int.reduceLE, Int.reduceToNat, Nat.reduceAdd, Nat.reduceMul, Nat.reduceLeDiff, Nat.reduceLT, Nat.reduceSub, Int.reduceNeg, Int.reduceEq, Int.reduceBEq, Int.reduceBNe, Nat.reduceEqDiff, Int.lt_irrefl, h1, h2, h5]
      exact hP1
end Vg.G3
