import Derived.Test.YtpclbojoknhnlaaDoorVP4
import Derived.Test.YtpclbojoknhnlaaDoorVN5
import Derived.Test.YtpclbojoknhnlaaDoorVVgHeap
namespace Vg.G3
open Go Lg Vg.Nm
set_option linter.unusedSimpArgs false
set_option linter.unusedVariables false
set_option maxRecDepth 10000
set_option maxHeartbeats 4000000
attribute [local congr] bind_congr1
attribute [local go_sem] nat_words_r0 nat_words_r1 nat_words_r2 nat_words_r3 nat_words_r4 nat_words_r5 nat_words_r6 nat_words_r7 nat_words_r7_d nat_words_r8 nat_words_r9 nat_words_f nat_words_v nat_text_r0 nat_text_r1 nat_text_r2 nat_text_r3 nat_text_r4 nat_text_r5 nat_text_r6 nat_text_r7 nat_text_r8 nat_text_f nat_text_v nat_less_r0 nat_less_r1 nat_less_r2 nat_less_r3 nat_less_r4 nat_less_r5 nat_less_r6 nat_less_r7 nat_less_r8 nat_less_f nat_less_v nat_Sub_r0 nat_Sub_r1 nat_Sub_r2 nat_Sub_r3 nat_Sub_r4 nat_Sub_r5 nat_Sub_f nat_Sub_v

def wlen (a : List UInt8) : Nat := ((trimB a).length + 3) / 4
theorem words_spec (a : List UInt8) (ha : a.length < 1000000) (lo : Nat) (h : VHeap) (hlo : lo ≤ h.length) : callVL vp lo n_nat_words [.str a] h = some (.hs h.length 0 (wlen a) 1, h ++ [.cells true (dcells (wlen a) (valB a))]) := by
  obtain ⟨P, hP⟩ : ∃ P : VV × VHeap → Prop, P = fun r => r = (.hs h.length 0 (wlen a) 1, h ++ [.cells true (dcells (wlen a) (valB a))]) := ⟨_, rfl⟩
  have key := call_body (p := vp) (lo := lo) (h := h) (f := n_nat_words) (fn := nat_words_v) (args := [.str a]) (P := P) rfl (.inr rfl) rfl ?_
  · obtain ⟨r, hr, hp⟩ := key; subst hP; rw [hr, hp]
  have hP1 : P (.hs h.length 0 (wlen a) 1, h ++ [.cells true (dcells (wlen a) (valB a))]) := by subst hP; rfl
  clear hP
  have h1 := trim_spec a
  have la : (trimB a).length ≤ a.length := by rw [trim_enc]; exact enc_len (valB_lt a)
  rw [← trim_val a] at hP1
  unfold wlen at hP1
  generalize trimB a = x at *
  have hw3 : IntKind.i64.wrap ((x.length : Int) + 3) = ((x.length + 3 : Nat) : Int) := by rw [wrap_id (by omega) (by omega)]; rfl
  have hq3 : IntKind.i64.wrap (((x.length + 3 : Nat) : Int).tdiv 4) = (((x.length + 3) / 4 : Nat) : Int) := by
    rw [show (4 : Int) = ((4 : Nat) : Int) from rfl, ← Int.ofNat_tdiv, wrap_id (by omega) (by omega)]
  have hLd : x.length ≤ 4 * ((x.length + 3) / 4) := by omega
  have hLb : (x.length + 3) / 4 ≤ 1000000 := by omega
  generalize (x.length + 3) / 4 = L at *
  have m0 : (0 : Int) ≤ (L : Int) := by omega
  have m1 : (L : Int) ≤ 281474976710656 := by omega
  have m2 : (4 : Int) * (L : Int) ≤ 281474976710656 := by omega
  have mz := rows_zero L
  rw [dcells_zero] at mz
  have hlo' : lo ≤ h.length := hlo
  simp -implicitDefEqProofs only [go_sem, ↓reduceIte, reduceCtorEq, Int.reduceLT, Int.reduceLE, Int.reduceToNat, Nat.reduceAdd, Nat.reduceMul, Nat.reduceLeDiff, Nat.reduceLT, Nat.reduceSub, Int.reduceNeg, Int.reduceEq, Int.reduceBEq, Int.reduceBNe, Nat.reduceEqDiff, ap_get0, ap_get, ap_set0, ap_set, ap_take, ap_sub, ap_le, List.append_assoc, Nat.add_assoc, Nat.add_lt_add_iff_left, Nat.lt_add_right_iff_pos, h1, hw3, hq3, m0, m1, m2, mz, Int.toNat_natCast]
  rw [Sat_bind]
  refine loop_up (I := fun i env h' => h' = h ++ [.cells true (dcells L (valB (x.drop (x.length - i))))] ∧ env = [.str x, .undef, .undef, .hs h.length 0 L 1, .undef, .undef, .undef, .undef, .undef, .undef, .undef, .undef, .undef, .undef, .int .i64 ((x.length : Nat) : Int), .int .i64 ((i : Nat) : Int), .undef, .undef, .undef, .undef, .undef, .undef, .undef, .undef, .undef, .undef, .undef, .undef, .undef, .undef, .undef, .undef, .undef, .undef, .undef, .undef, .undef, .undef, .undef, .undef]) x.length ?_ ?_ (Nat.zero_le _) ⟨by rw [Nat.sub_zero, List.drop_length]; rfl, by simp -implicitDefEqProofs only [go_sem, ↓reduceIte, reduceCtorEq, Int.reduceLT, Int.reduceLE, Int.reduceToNat, Nat.reduceAdd, Nat.reduceMul, Nat.reduceLeDiff, Nat.reduceLT, Nat.reduceSub, Int.reduceNeg, Int.reduceEq, Int.reduceBEq, Int.reduceBNe, Nat.reduceEqDiff]⟩
  · rintro i env h' hi ⟨rfl, rfl⟩
    have hi' : (i : Int) < (x.length : Int) := by omega
    obtain ⟨c, hc⟩ : ∃ c, x[x.length - 1 - i]? = some c := ⟨_, List.getElem?_eq_getElem (by omega)⟩
    have hw := wrap_succ (i := i) (by omega)
    have w1 : IntKind.i64.wrap ((x.length : Int) - 1) = ((x.length - 1 : Nat) : Int) := by rw [wrap_id (by omega) (by omega)]; omega
    have w2 : IntKind.i64.wrap (((x.length - 1 : Nat) : Int) - (i : Int)) = ((x.length - 1 - i : Nat) : Int) := by rw [wrap_id (by omega) (by omega)]; omega
    have q1 : IntKind.i64.wrap ((i : Int).tdiv 4) = ((i / 4 : Nat) : Int) := by
      rw [show (4 : Int) = ((4 : Nat) : Int) from rfl, ← Int.ofNat_tdiv, wrap_id (by omega) (by omega)]
    have q2 : (i : Int).tmod 4 = ((i % 4 : Nat) : Int) := by
      rw [show (4 : Int) = ((4 : Nat) : Int) from rfl, ← Int.ofNat_tmod]
    have q3 : IntKind.i64.wrap (((i % 4 : Nat) : Int) * 8) = ((8 * (i % 4) : Nat) : Int) := by rw [wrap_id (by omega) (by omega)]; omega
    obtain ⟨j, r, hr, hij, ej, er⟩ : ∃ j r, r < 4 ∧ i = 4 * j + r ∧ i / 4 = j ∧ i % 4 = r := ⟨i / 4, i % 4, Nat.mod_lt _ (by decide), by omega, rfl, rfl⟩
    rw [ej] at q1
    rw [er] at q2 q3
    have hj : j < L := by omega
    have hv := drop_lt (x := x) (i := i) (by omega)
    have hn := drop_val hi hc
    have hcb := u8_lt c
    have hcu : IntKind.u32.wrap (c.toNat : Int) = c.toNat := u32_id (by omega)
    have hsh := shl32 (n := c.toNat) (k := 8 * r) (by omega) (byte_lt hcb hr)
    generalize valB (x.drop (x.length - i)) = M at *
    generalize valB (x.drop (x.length - (i + 1))) = M' at *
    rw [hij] at hv hn
    have hor := word_or (j := j) hv hcb hr
    rw [← hn] at hor
    have hds := dcells_set (L := L) (m := M) (m' := M') hj fun k hk => by
      rw [hn, dig_byte hv hcb hr, if_neg hk]
    simp only [vsplice, List.length_cons, List.length_nil, Nat.zero_add, List.append_assoc, List.cons_append, List.nil_append] at hds
    have htk : ∀ b : VBlk, (h ++ [b]).take (h.length + 1) = h ++ [b] := fun b => List.take_of_length_le (by simp)
    have hg := dcells_get (L := L) (m := M) hj
    have hl := dcells_len L M
    have hix1 : j + 1 ≤ L := by omega
    generalize dcells L M = cs at *
    generalize dcells L M' = cs' at *
    clear hv hn ej er
    simp -implicitDefEqProofs only [nat_words_b0, go_sem, ↓reduceIte, reduceCtorEq, Int.reduceLT, Int.reduceLE, Int.reduceToNat, Nat.reduceAdd, Nat.reduceMul, Nat.reduceLeDiff, Nat.reduceLT, Nat.reduceSub, Int.reduceNeg, Int.reduceEq, Int.reduceBEq, Int.reduceBNe, Nat.reduceEqDiff, ap_get0, ap_get, ap_set0, ap_set, ap_take, ap_sub, ap_le, List.append_assoc, Nat.add_assoc, Nat.add_lt_add_iff_left, Nat.lt_add_right_iff_pos, hi', hw, hc, w1, w2, q1, q2, q3, hj, hcu, hsh, hor, hg, hl, hds, hix1, hlo', htk, Nat.mul_one, Nat.zero_add]
  · rintro env h' ⟨rfl, rfl⟩
    rw [Nat.sub_self, List.drop_zero]
    simp -implicitDefEqProofs only [nat_words_b0, go_sem, ↓reduceIte, reduceCtorEq, Int.reduceLT, Int.reduceLE, Int.reduceToNat, Nat.reduceAdd, Nat.reduceMul, Nat.reduceLeDiff, Nat.reduceLT, Nat.reduceSub, Int.reduceNeg, Int.reduceEq, Int.reduceBEq, Int.reduceBNe, Nat.reduceEqDiff, ap_get0, ap_get, ap_set0, ap_set, ap_take, ap_sub, ap_le, List.append_assoc, Nat.add_assoc, Nat.add_lt_add_iff_left, Nat.lt_add_right_iff_pos, Int.lt_irrefl]
    exact hP1
/-- The value of some digits. -/
theorem text_spec (m L : Nat) (hL : L < 1000000) (hm : m < B32 ^ L) (n : Nat) (lo : Nat) (h : VHeap) (hlo : lo ≤ n) (hn : h[n]? = some (.cells true (dcells L m))) : callVL vp lo n_nat_text [.hs n 0 L 1] h = some (.str (encB m), h) := by
  obtain ⟨P, hP⟩ : ∃ P : VV × VHeap → Prop, P = fun r => r = (.str (encB m), h) := ⟨_, rfl⟩
  have key := call_body (p := vp) (lo := lo) (h := h) (f := n_nat_text) (fn := nat_text_v) (args := [.hs n 0 L 1]) (P := P) rfl (.inl rfl) rfl ?_
  · obtain ⟨r, hr, hp⟩ := key; subst hP; rw [hr, hp]
  have hP1 : P (.str (encB m), h) := by subst hP; rfl
  clear hP
  have hlt := lt_of_some hn
  have w4 : IntKind.i64.wrap (4 * (L : Int)) = ((4 * L : Nat) : Int) := by rw [wrap_id (by omega) (by omega)]; omega
  have m0 : (0 : Int) ≤ ((4 * L : Nat) : Int) := by omega
  have m1 : ((4 * L : Nat) : Int) ≤ 281474976710656 := by omega
  have m2 : (1 : Int) * ((4 * L : Nat) : Int) ≤ 281474976710656 := by omega
  have mz := rows_zero8 (4 * L)
  simp -implicitDefEqProofs only [go_sem, ↓reduceIte, reduceCtorEq, Int.reduceLT, Int.reduceLE, Int.reduceToNat, Nat.reduceAdd, Nat.reduceMul, Nat.reduceLeDiff, Nat.reduceLT, Nat.reduceSub, Int.reduceNeg, Int.reduceEq, Int.reduceBEq, Int.reduceBNe, Nat.reduceEqDiff, ap_get0, ap_get, ap_set0, ap_set, ap_take, ap_sub, ap_le, List.append_assoc, Nat.add_assoc, Nat.add_lt_add_iff_left, Nat.lt_add_right_iff_pos, w4, m0, m1, m2, mz, Int.toNat_natCast]
  rw [Sat_bind]
  refine loop_up (I := fun i env h' => h' = h ++ [.cells true (List.replicate (4 * (L - i)) (.int .u8 0) ++ bcells (4 * i) m)] ∧ env = ((.hs n 0 L 1 : VV) :: VV.undef :: VV.undef :: (.hs h.length 0 (4 * L) 1 : VV) :: VV.undef :: VV.undef :: VV.undef :: VV.undef :: VV.undef :: VV.undef :: VV.undef :: (.hs n 0 L 1 : VV) :: (.int .i64 ((L : Nat) : Int) : VV) :: (.int .i64 ((i : Nat) : Int) : VV) :: VV.undef :: VV.undef :: VV.undef :: VV.undef :: VV.undef :: VV.undef :: VV.undef :: VV.undef :: VV.undef :: VV.undef :: VV.undef :: VV.undef :: VV.undef :: VV.undef :: VV.undef :: VV.undef :: VV.undef :: VV.undef :: VV.undef :: VV.undef :: VV.undef :: VV.undef :: VV.undef :: VV.undef :: VV.undef :: VV.undef :: VV.undef :: VV.undef :: VV.undef :: VV.undef :: VV.undef :: VV.undef :: VV.undef :: VV.undef :: VV.undef :: VV.undef :: VV.undef :: VV.undef :: VV.undef :: VV.undef :: [])) L ?_ ?_ (Nat.zero_le _) ⟨by rw [Nat.sub_zero, show bcells (4 * 0) m = [] from rfl, List.append_nil], by simp -implicitDefEqProofs only [go_sem, ↓reduceIte, reduceCtorEq, Int.reduceLT, Int.reduceLE, Int.reduceToNat, Nat.reduceAdd, Nat.reduceMul, Nat.reduceLeDiff, Nat.reduceLT, Nat.reduceSub, Int.reduceNeg, Int.reduceEq, Int.reduceBEq, Int.reduceBNe, Nat.reduceEqDiff]⟩
  · rintro i env h' hi ⟨rfl, rfl⟩
    have hi' : (i : Int) < (L : Int) := by omega
    have hw := wrap_succ (i := i) (by omega)
    have w1 : IntKind.i64.wrap ((L : Int) - 1) = ((L - 1 : Nat) : Int) := by rw [wrap_id (by omega) (by omega)]; omega
    have w2 : IntKind.i64.wrap (((L - 1 : Nat) : Int) - (i : Int)) = ((L - 1 - i : Nat) : Int) := by rw [wrap_id (by omega) (by omega)]; omega
    obtain ⟨k, hk⟩ : ∃ k, 4 * (L - 1 - i) = k := ⟨_, rfl⟩
    have w3 : IntKind.i64.wrap (4 * ((L - 1 - i : Nat) : Int)) = (k : Int) := by rw [wrap_id (by omega) (by omega)]; omega
    have k1 : IntKind.i64.wrap ((k : Int) + 1) = ((k + 1 : Nat) : Int) := by rw [wrap_id (by omega) (by omega)]; omega
    have k2 : IntKind.i64.wrap ((k : Int) + 2) = ((k + 1 + 1 : Nat) : Int) := by rw [wrap_id (by omega) (by omega)]; omega
    have k3 : IntKind.i64.wrap ((k : Int) + 3) = ((k + 1 + 1 + 1 : Nat) : Int) := by rw [wrap_id (by omega) (by omega)]; omega
    have hg := dcells_get (L := L) (m := m) hi
    have hdl := dcells_len L m
    have hil : i + 1 ≤ L := by omega
    have hd := dig_lt m i
    rw [B32_eq] at hd
    have hF := bcells_four i m
    generalize dig m i = w at *
    have s24 : binE .shr (.int .u32 (w : Int)) (.int .u64 24) = some (.int .u32 ((w / 16777216 : Nat) : Int)) := shr32u (n := w) (k := 24) (by omega)
    have s16 : binE .shr (.int .u32 (w : Int)) (.int .u64 16) = some (.int .u32 ((w / 65536 : Nat) : Int)) := shr32u (n := w) (k := 16) (by omega)
    have s8 : binE .shr (.int .u32 (w : Int)) (.int .u64 8) = some (.int .u32 ((w / 256 : Nat) : Int)) := shr32u (n := w) (k := 8) (by omega)
    have u24 := u8_mod (w / 16777216)
    have u16 := u8_mod (w / 65536)
    have u8' := u8_mod (w / 256)
    have u0 := u8_mod w
    have hb := ap_low (l := [.cells true (List.replicate (4 * (L - i)) (VV.int .u8 0) ++ bcells (4 * i) m)]) hn
    have hrep : List.replicate (4 * (L - i)) (VV.int .u8 0) = List.replicate k (VV.int .u8 0) ++ [.int .u8 0, .int .u8 0, .int .u8 0, .int .u8 0] := by
      rw [show 4 * (L - i) = k + 4 by omega, ← List.replicate_append_replicate]; rfl
    rw [hF, show 4 * (L - (i + 1)) = k by omega]
    rw [hrep] at hb ⊢
    have hAl : (List.replicate k (VV.int .u8 0)).length = k := List.length_replicate
    generalize List.replicate k (VV.int .u8 0) = A at *
    generalize bcells (4 * i) m = F at *
    clear hrep hF
    rw [List.append_assoc] at hb ⊢
    simp only [List.cons_append, List.nil_append] at hb ⊢
    have hT0 : ∀ B, List.take k (A ++ B) = A := fun B => by rw [← hAl, List.take_left]
    have hT : ∀ (j : Nat) (B : List VV), List.take (k + (j + 1)) (A ++ B) = A ++ B.take (j + 1) := fun j B => by rw [← hAl, List.take_append, List.take_of_length_le (by omega)]; congr 2; omega
    have hD : ∀ (j : Nat) (B : List VV), List.drop (k + (j + 1)) (A ++ B) = B.drop (j + 1) := fun j B => by rw [← hAl, List.drop_append, List.drop_of_length_le (by omega), List.nil_append]; congr 1; omega
    have hkl : ∀ j : Nat, k ≤ k + j := fun j => by omega
    have htk : ∀ b : VBlk, (h ++ [b]).take (h.length + 1) = h ++ [b] := fun b => List.take_of_length_le (by simp)
    have hk4 : k < 4 * L ∧ k + 1 < 4 * L ∧ k + 1 + 1 < 4 * L ∧ k + 1 + 1 + 1 < 4 * L := by omega
    have hlo2 : lo ≤ h.length := by omega
    have hLn : ∀ x y z t : VV, (A ++ x :: y :: z :: t :: F).length = k + (F.length + 4) := fun x y z t => by rw [List.length_append, hAl]; rfl
    have f1 : k + 1 ≤ k + (F.length + 4) ∧ k + 2 ≤ k + (F.length + 4) ∧ k + 3 ≤ k + (F.length + 4) ∧ k + 4 ≤ k + (F.length + 4) := by omega
    simp -implicitDefEqProofs only [nat_text_b0, go_sem, ↓reduceIte, reduceCtorEq, Int.reduceLT, Int.reduceLE, Int.reduceToNat, Nat.reduceAdd, Nat.reduceMul, Nat.reduceLeDiff, Nat.reduceLT, Nat.reduceSub, Int.reduceNeg, Int.reduceEq, Int.reduceBEq, Int.reduceBNe, Nat.reduceEqDiff, ap_get0, ap_get, ap_set0, ap_set, ap_take, ap_sub, ap_le, List.append_assoc, Nat.add_assoc, Nat.add_lt_add_iff_left, Nat.lt_add_right_iff_pos, hi, hi', hw, w1, w2, w3, k1, k2, k3, hb, hg, hdl, hil, s24, s16, s8, u24, u16, u8', u0, hT0, hT, hD, hLn, f1, hk4, htk, hlo2, Nat.mul_one, Nat.zero_add, Nat.add_assoc]
  · rintro env h' ⟨rfl, rfl⟩
    rw [Nat.sub_self, show List.replicate (4 * 0) (VV.int .u8 0) = [] from rfl, List.nil_append]
    have hsl : ∀ a b c d, isSl (.hs a b c d) = true := fun _ _ _ _ => rfl
    have hbl := bcells_len (4 * L) m
    have hbw := blow (4 * L) m
    have hbn := bnrm (4 * L) m
    have hbr := brows (4 * L) m
    have hby := bytes_b (4 * L) m
    have ht := trim_spec (fixB (4 * L) m)
    rw [trim_fix (by rw [pow256]; exact hm)] at ht
    simp -implicitDefEqProofs only [nat_text_b0, go_sem, ↓reduceIte, reduceCtorEq, Int.reduceLT, Int.reduceLE, Int.reduceToNat, Nat.reduceAdd, Nat.reduceMul, Nat.reduceLeDiff, Nat.reduceLT, Nat.reduceSub, Int.reduceNeg, Int.reduceEq, Int.reduceBEq, Int.reduceBNe, Nat.reduceEqDiff, ap_get0, ap_get, ap_set0, ap_set, ap_take, ap_sub, ap_le, List.append_assoc, Nat.add_assoc, Nat.add_lt_add_iff_left, Nat.lt_add_right_iff_pos, Int.lt_irrefl, hsl, hbl, hbw, hbn, hbr, hby, ht]
    exact hP1
/-- Subtraction of digits in place. -/
theorem less_spec (a b L K : Nat) (hL : L < 1000000) (ha : a < B32 ^ L) (hb : b < B32 ^ K) (hab : b ≤ a) (n m : Nat) (hnm : n ≠ m) (lo : Nat) (h : VHeap) (hlo : lo ≤ n) (hn : h[n]? = some (.cells true (dcells L a))) (hm : h[m]? = some (.cells true (dcells K b))) : callVL vp lo n_nat_less [.hs n 0 L 1, .hs m 0 K 1] h = some (.tup [], h.set n (.cells true (dcells L (a - b)))) := by
  obtain ⟨P, hP⟩ : ∃ P : VV × VHeap → Prop, P = fun r => r = (.tup [], h.set n (.cells true (dcells L (a - b)))) := ⟨_, rfl⟩
  have key := call_body (p := vp) (lo := lo) (h := h) (f := n_nat_less) (fn := nat_less_v) (args := [.hs n 0 L 1, .hs m 0 K 1]) (P := P) rfl (.inl rfl) rfl ?_
  · obtain ⟨r, hr, hp⟩ := key; subst hP; rw [hr, hp]
  have hP1 : P (.tup [], h.set n (.cells true (dcells L (a - b)))) := by subst hP; rfl
  clear hP
  have hlt := lt_of_some hn
  simp -implicitDefEqProofs only [go_sem, ↓reduceIte, reduceCtorEq, Int.reduceLT, Int.reduceLE, Int.reduceToNat, Nat.reduceAdd, Nat.reduceMul, Nat.reduceLeDiff, Nat.reduceLT, Nat.reduceSub, Int.reduceNeg, Int.reduceEq, Int.reduceBEq, Int.reduceBNe, Nat.reduceEqDiff, ap_get0, ap_get, ap_set0, ap_set, ap_take, ap_sub, ap_le, List.append_assoc, Nat.add_assoc, Nat.add_lt_add_iff_left, Nat.lt_add_right_iff_pos]
  rw [Sat_bind]
  refine loop_up (I := fun i env h' => h' = h.set n (.cells true (fcells L fun k => if k < i then dig (a - b) k else dig a k)) ∧ env = [.hs n 0 L 1, .hs m 0 K 1, .undef, .undef, .int .u64 ((bor a b i : Nat) : Int), .undef, .undef, .undef, .hs n 0 L 1, .int .i64 ((L : Nat) : Int), .int .i64 ((i : Nat) : Int), .undef, .undef, .undef, .undef, .undef, .undef, .undef, .undef, .undef, .undef, .undef, .undef, .undef, .undef, .undef, .undef, .undef, .undef, .undef, .undef, .undef, .undef, .undef, .undef, .undef, .undef, .undef]) L ?_ ?_ (Nat.zero_le _) ⟨?_, ?_⟩
  · rintro i env h' hi ⟨rfl, rfl⟩
    have hi' : (i : Int) < (L : Int) := by omega
    have hw := wrap_succ (i := i) (by omega)
    have hg := fcells_get (L := L) (f := fun k => if k < i then dig (a - b) k else dig a k) hi
    simp only [Nat.lt_irrefl, if_false] at hg
    have hlc := fcells_len L fun k => if k < i then dig (a - b) k else dig a k
    have hst := fcells_set (L := L) (f := fun k => if k < i then dig (a - b) k else dig a k) (g := fun k => if k < i + 1 then dig (a - b) k else dig a k) hi fun k hk => by
      by_cases h1 : k < i
      · rw [if_pos h1, if_pos (by omega)]
      · rw [if_neg h1, if_neg (by omega)]
    have hds := dig_sub hab i
    have hbs := bor_succ a b i
    simp only [Nat.lt_succ_self, if_true] at hst
    rw [hds] at hst
    have hA : ∀ x, (h.set n x)[n]? = some x := fun x => List.getElem?_set_self hlt
    have hM : ∀ x, (h.set n x)[m]? = some (.cells true (dcells K b)) := fun x => by rw [List.getElem?_set_ne hnm]; exact hm
    have hSS : ∀ x y, (h.set n x).set n y = h.set n y := fun x y => List.set_set ..
    have hil : i + 1 ≤ L := by omega
    have hbl := dcells_len K b
    have hbo : bor a b i ≤ 1 := by unfold bor; split <;> omega
    have hda := dig_lt a i
    have hdb := dig_lt b i
    rw [B32_eq] at hda hdb hst
    have hK0 : ¬ i < K → dig b i = 0 := fun hK => dig_big (Nat.lt_of_lt_of_le hb (Nat.pow_le_pow_right B32_pos (by omega)))
    have hgb := fun hK => dcells_get (L := K) (m := b) (j := i) hK
    generalize (fcells L fun k => if k < i then dig (a - b) k else dig a k) = cs at *
    generalize (fcells L fun k => if k < i + 1 then dig (a - b) k else dig a k) = cs' at *
    generalize dig a i = x at *
    generalize dig b i = y at *
    generalize bor a b i = β at *
    clear hds
    have u1 : IntKind.u64.wrap (x : Int) = x := u64_id (by omega)
    have u2 : IntKind.u64.wrap (y : Int) = y := u64_id (by omega)
    obtain ⟨z, hz⟩ : ∃ z : Nat, IntKind.u64.wrap ((x : Int) - (β : Int)) = (z : Int) := ⟨(((x : Int) - (β : Int)) % 18446744073709551616).toNat, by rw [IntKind.wrap_u64]; omega⟩
    obtain ⟨t, ht⟩ : ∃ t : Nat, IntKind.u64.wrap ((z : Int) - (y : Int)) = (t : Int) := ⟨(((z : Int) - (y : Int)) % 18446744073709551616).toNat, by rw [IntKind.wrap_u64]; omega⟩
    have hz' := hz
    have ht' := ht
    rw [IntKind.wrap_u64] at hz' ht'
    have hsh : binE .shr (.int .u64 (t : Int)) (.int .u64 63) = some (.int .u64 ((if x < y + β then 1 else 0 : Nat) : Int)) := by
      have := shr64u (n := t) (k := 63) (k' := .u64) (by omega)
      rw [show ((63 : Nat) : Int) = 63 from rfl] at this
      rw [this]
      congr 3
      split <;> omega
    have hlow : IntKind.u32.wrap (t : Int) = ((if x < y + β then x + 4294967296 - y - β else x - y - β : Nat) : Int) := by
      rw [u32_mod]
      congr 1
      split <;> omega
    generalize (if x < y + β then x + 4294967296 - y - β else x - y - β : Nat) = D at *
    generalize (if x < y + β then 1 else 0 : Nat) = β' at *
    have hlo2 : lo ≤ n := hlo
    by_cases hK : i < K
    · have hK' : (i : Int) < (K : Int) := by omega
      have hgb' := hgb hK
      simp -implicitDefEqProofs only [nat_less_b0, go_sem, ↓reduceIte, reduceCtorEq, Int.reduceLT, Int.reduceLE, Int.reduceToNat, Nat.reduceAdd, Nat.reduceMul, Nat.reduceLeDiff, Nat.reduceLT, Nat.reduceSub, Int.reduceNeg, Int.reduceEq, Int.reduceBEq, Int.reduceBNe, Nat.reduceEqDiff, ap_get0, ap_get, ap_set0, ap_set, ap_take, ap_sub, ap_le, List.append_assoc, Nat.add_assoc, Nat.add_lt_add_iff_left, Nat.lt_add_right_iff_pos, hi, hi', hw, hA, hM, hSS, hg, hlc, hil, hst, hK, hK', hgb', u1, u2, hz, ht, hsh, hlow, hlo2, hbs, Nat.mul_one, Nat.zero_add]
    · have hK' : ¬ (i : Int) < (K : Int) := by omega
      have hy := hK0 hK
      subst hy
      have hzt : t = z := by omega
      subst hzt
      simp -implicitDefEqProofs only [nat_less_b0, go_sem, ↓reduceIte, reduceCtorEq, Int.reduceLT, Int.reduceLE, Int.reduceToNat, Nat.reduceAdd, Nat.reduceMul, Nat.reduceLeDiff, Nat.reduceLT, Nat.reduceSub, Int.reduceNeg, Int.reduceEq, Int.reduceBEq, Int.reduceBNe, Nat.reduceEqDiff, ap_get0, ap_get, ap_set0, ap_set, ap_take, ap_sub, ap_le, List.append_assoc, Nat.add_assoc, Nat.add_lt_add_iff_left, Nat.lt_add_right_iff_pos, hi, hi', hw, hA, hM, hSS, hg, hlc, hil, hst, hK', u1, hz, hsh, hlow, hlo2, hbs, Nat.mul_one, Nat.zero_add]
  · rintro env h' ⟨rfl, rfl⟩
    have hc : (fcells L fun k => if k < L then dig (a - b) k else dig a k) = dcells L (a - b) := by
      rw [dcells_f]; exact fcells_congr fun k hk => by rw [if_pos hk]
    rw [hc]
    have hlen : ∀ x, (h.set n x).take h.length = h.set n x := fun x => List.take_of_length_le (by rw [List.length_set]; exact Nat.le_refl _)
    simp -implicitDefEqProofs only [nat_less_b0, go_sem, ↓reduceIte, reduceCtorEq, Int.reduceLT, Int.reduceLE, Int.reduceToNat, Nat.reduceAdd, Nat.reduceMul, Nat.reduceLeDiff, Nat.reduceLT, Nat.reduceSub, Int.reduceNeg, Int.reduceEq, Int.reduceBEq, Int.reduceBNe, Nat.reduceEqDiff, ap_get0, ap_get, ap_set0, ap_set, ap_take, ap_sub, ap_le, List.append_assoc, Nat.add_assoc, Nat.add_lt_add_iff_left, Nat.lt_add_right_iff_pos, Int.lt_irrefl, hlen]
    exact hP1
  · have hc : (fcells L fun k => if k < 0 then dig (a - b) k else dig a k) = dcells L a := by
      rw [dcells_f]; exact fcells_congr fun k hk => by rw [if_neg (by omega)]
    rw [hc, set_same hn]
  · have : bor a b 0 = 0 := by unfold bor; rw [Nat.pow_zero, Nat.mod_one, Nat.mod_one]; rfl
    rw [this]
    simp -implicitDefEqProofs only [go_sem, ↓reduceIte, reduceCtorEq, Int.reduceLT, Int.reduceLE, Int.reduceToNat, Nat.reduceAdd, Nat.reduceMul, Nat.reduceLeDiff, Nat.reduceLT, Nat.reduceSub, Int.reduceNeg, Int.reduceEq, Int.reduceBEq, Int.reduceBNe, Nat.reduceEqDiff]
theorem wlen_lt (a : List UInt8) : valB a < B32 ^ wlen a := by
  rw [← trim_val a, ← pow256]
  exact Nat.lt_of_lt_of_le (valB_lt _) (Nat.pow_le_pow_right (by decide) (by unfold wlen; omega))
theorem wlen_le {a : List UInt8} (ha : a.length < 1000000) : wlen a < 1000000 := by
  have la : (trimB a).length ≤ a.length := by rw [trim_enc]; exact enc_len (valB_lt a)
  unfold wlen; omega
/-- nat.Sub. -/
theorem Sub_spec (a b : List UInt8) (ha : a.length < 1000000) (hb : b.length < 1000000) (lo : Nat) (h : VHeap) : callVL vp lo n_nat_Sub [.str a, .str b] h = some (.tup (if valB b ≤ valB a then [.str (encB (valB a - valB b)), .int .i64 0] else [.str [], .int .i64 1]), h) := by
  refine call_valE (fn := nat_Sub_v) rfl rfl rfl rfl rfl ?_ lo h
  have hC := Cmp_spec a b ha hb
  by_cases hab : valB b ≤ valB a
  · have hc : ¬ cmpN (valB a) (valB b) < 0 := by unfold cmpN; rw [if_neg (by omega)]; split <;> decide
    have w1 := words_spec a ha 0 [] (Nat.zero_le _)
    have w2 := words_spec b hb 0 [.cells true (dcells (wlen a) (valB a))] (Nat.zero_le _)
    have hL := less_spec (valB a) (valB b) (wlen a) (wlen b) (wlen_le ha) (wlen_lt a) (wlen_lt b) hab 0 1 (by decide) 0 [.cells true (dcells (wlen a) (valB a)), .cells true (dcells (wlen b) (valB b))] (Nat.zero_le _) rfl rfl
    have hT := text_spec (valB a - valB b) (wlen a) (wlen_le ha) (Nat.lt_of_le_of_lt (Nat.sub_le _ _) (wlen_lt a)) 0 0 [.cells true (dcells (wlen a) (valB a - valB b)), .cells true (dcells (wlen b) (valB b))] (Nat.zero_le _) rfl
    simp only [List.length_nil, List.nil_append, List.length_singleton, List.cons_append, List.set_cons_zero] at w1 w2 hL hT
    simp -implicitDefEqProofs only [go_sem, ↓reduceIte, reduceCtorEq, Int.reduceLT, Int.reduceLE, Int.reduceToNat, Nat.reduceAdd, Nat.reduceMul, Nat.reduceLeDiff, Nat.reduceLT, Nat.reduceSub, Int.reduceNeg, Int.reduceEq, Int.reduceBEq, Int.reduceBNe, Nat.reduceEqDiff, ap_get0, ap_get, ap_set0, ap_set, ap_take, ap_sub, ap_le, List.append_assoc, Nat.add_assoc, Nat.add_lt_add_iff_left, Nat.lt_add_right_iff_pos, hC, hc, w1, w2, hL, hT, hab]
  · have hc : cmpN (valB a) (valB b) < 0 := by rw [cmpN_lt (by omega)]; decide
    simp -implicitDefEqProofs only [go_sem, ↓reduceIte, reduceCtorEq, Int.reduceLT, Int.reduceLE, Int.reduceToNat, Nat.reduceAdd, Nat.reduceMul, Nat.reduceLeDiff, Nat.reduceLT, Nat.reduceSub, Int.reduceNeg, Int.reduceEq, Int.reduceBEq, Int.reduceBNe, Nat.reduceEqDiff, ap_get0, ap_get, ap_set0, ap_set, ap_take, ap_sub, ap_le, List.append_assoc, Nat.add_assoc, Nat.add_lt_add_iff_left, Nat.lt_add_right_iff_pos, hC, hc, hab]
end Vg.G3
namespace Vg.G3
open Go Lg Vg.Nm
set_option linter.unusedSimpArgs false
set_option linter.unusedVariables false
set_option maxRecDepth 10000
set_option maxHeartbeats 4000000
attribute [local congr] bind_congr1
attribute [local go_sem] nat_Add_r0 nat_Add_r1 nat_Add_r2 nat_Add_r3 nat_Add_r4 nat_Add_r5 nat_Add_r6 nat_Add_r7 nat_Add_r8 nat_Add_r9 nat_Add_r10 nat_Add_r11 nat_Add_r12 nat_Add_r13 nat_Add_r14 nat_Add_r15 nat_Add_r16 nat_Add_r17 nat_Add_r18 nat_Add_r19 nat_Add_f nat_Add_v nat_Div_r0 nat_Div_r1 nat_Div_r2 nat_Div_r3 nat_Div_r4 nat_Div_r5 nat_Div_r6 nat_Div_r7 nat_Div_r8 nat_Div_r9 nat_Div_r10 nat_Div_r11 nat_Div_r12 nat_Div_r13 nat_Div_r14 nat_Div_r14_d nat_Div_r15 nat_Div_r16 nat_Div_r17 nat_Div_r18 nat_Div_f nat_Div_v rat_zero_r0 rat_zero_r1 rat_zero_f rat_zero_v rat_made_r0 rat_made_r1 rat_made_r2 rat_made_r3 rat_made_r4 rat_made_r5 rat_made_r6 rat_made_r7 rat_made_r8 rat_made_f rat_made_v rat_Good_r0 rat_Good_r1 rat_Good_r2 rat_Good_r3 rat_Good_f rat_Good_v rat_fit_r0 rat_fit_r1 rat_fit_r2 rat_fit_r3 rat_fit_f rat_fit_v rat_Neg_r0 rat_Neg_r1 rat_Neg_r2 rat_Neg_r3 rat_Neg_f rat_Neg_v

theorem enc7 {n : Nat} (h : n < 72057594037927936) : (encB n).length ≤ 7 := enc_len (Nat.lt_of_lt_of_le h (by decide))
theorem enc8 {n : Nat} (h : n < 18446744073709551616) : (encB n).length ≤ 8 := enc_len (Nat.lt_of_lt_of_le h (by decide))
/-- Sums of numbers of at most 7 bytes. -/
theorem AddS_spec (m n : Nat) (hm : m < 72057594037927936) (hn : n < 72057594037927936) (lo : Nat) (h : VHeap) : callVL vp lo n_nat_Add [.str (encB m), .str (encB n)] h = some (.str (encB (m + n)), h) := by
  refine call_valE (fn := nat_Add_v) rfl rfl rfl rfl rfl ?_ lo h
  have h1 := trim_spec (encB m)
  have h2 := trim_spec (encB n)
  rw [trim_id] at h1 h2
  have lm := enc7 hm
  have ln := enc7 hn
  have s1 := short_spec (encB m) (by omega)
  have s2 := short_spec (encB n) (by omega)
  rw [val_enc] at s1 s2
  have f := fromShort_spec (m + n) (by omega)
  have hw : IntKind.u64.wrap ((m : Int) + (n : Int)) = ((m + n : Nat) : Int) := u64_id (n := m + n) (by omega)
  have lm' : ((encB m).length : Int) < 8 := by omega
  have ln' : ((encB n).length : Int) < 8 := by omega
  generalize encB m = M at *
  generalize encB n = N at *
  simp -implicitDefEqProofs only [nat_Add_b0, go_sem, ↓reduceIte, reduceCtorEq, Int.reduceLT, Int.reduceLE, Int.reduceToNat, Nat.reduceAdd, Nat.reduceMul, Nat.reduceLeDiff, Nat.reduceLT, Nat.reduceSub, Int.reduceNeg, Int.reduceEq, Int.reduceBEq, Int.reduceBNe, Nat.reduceEqDiff, h1, h2, lm', ln', s1, s2, hw, f]
/-- Quotients of numbers of at most 8 bytes. -/
theorem DivS_spec (m n : Nat) (hm : m < 18446744073709551616) (hn : n < 18446744073709551616) (h0 : n ≠ 0) (lo : Nat) (h : VHeap) : callVL vp lo n_nat_Div [.str (encB m), .str (encB n)] h = some (.tup [.str (encB (m / n)), .str (encB (m % n)), .int .i64 0], h) := by
  refine call_valE (fn := nat_Div_v) rfl rfl rfl rfl rfl ?_ lo h
  have h1 := trim_spec (encB m)
  have h2 := trim_spec (encB n)
  rw [trim_id] at h1 h2
  have lm := enc8 hm
  have ln := enc8 hn
  have s1 := short_spec (encB m) (by omega)
  have s2 := short_spec (encB n) (by omega)
  rw [val_enc] at s1 s2
  have f1 := fromShort_spec (m / n) (Nat.lt_of_le_of_lt (Nat.div_le_self _ _) hm)
  have f2 := fromShort_spec (m % n) (Nat.lt_of_le_of_lt (Nat.mod_le _ _) hm)
  have hq : IntKind.u64.wrap ((m : Int).tdiv (n : Int)) = ((m / n : Nat) : Int) := by
    rw [← Int.ofNat_tdiv]; exact u64_id (Nat.lt_of_le_of_lt (Nat.div_le_self _ _) hm)
  have hr : (m : Int).tmod (n : Int) = ((m % n : Nat) : Int) := by rw [← Int.ofNat_tmod]
  have lm' : ((encB m).length : Int) ≤ 8 := by omega
  have ln' : ((encB n).length : Int) ≤ 8 := by omega
  have hne := beq_ne (fun h => h0 (enc_nil.1 h))
  have hn0 : ¬ (n : Int) = 0 := by omega
  generalize encB m = M at *
  generalize encB n = N at *
  simp -implicitDefEqProofs only [nat_Div_b0, go_sem, ↓reduceIte, reduceCtorEq, Int.reduceLT, Int.reduceLE, Int.reduceToNat, Nat.reduceAdd, Nat.reduceMul, Nat.reduceLeDiff, Nat.reduceLT, Nat.reduceSub, Int.reduceNeg, Int.reduceEq, Int.reduceBEq, Int.reduceBNe, Nat.reduceEqDiff, h1, h2, hne, lm', ln', s1, s2, hq, hr, hn0, f1, f2]
theorem zeroQ_spec (lo : Nat) (h : VHeap) : callVL vp lo n_rat_zero [] h = some (.agg (rv 0), h) := by
  refine call_valE (fn := rat_zero_v) rfl rfl rfl rfl rfl ?_ lo h
  rw [rv_zero, enc_one]
  simp -implicitDefEqProofs only [go_sem, ↓reduceIte, reduceCtorEq, Int.reduceLT, Int.reduceLE, Int.reduceToNat, Nat.reduceAdd, Nat.reduceMul, Nat.reduceLeDiff, Nat.reduceLT, Nat.reduceSub, Int.reduceNeg, Int.reduceEq, Int.reduceBEq, Int.reduceBNe, Nat.reduceEqDiff]
theorem bne_enc {n : Nat} : (encB n == [1]) = decide (n = 1) := by
  by_cases h : n = 1
  · subst h; rw [enc_one]; rfl
  · rw [beq_ne (fun e => h (enc_is_one.1 e)), decide_eq_false h]
/-- made. -/
theorem made_spec (b : Bool) (n d : Nat) (hn : n < 18446744073709551616) (hd : d < 18446744073709551616) (h0 : d ≠ 0) (lo : Nat) (h : VHeap) : callVL vp lo n_rat_made [.bool b, .str (encB n), .str (encB d)] h = some (.agg (rv (mkRat (sgn b n) d)), h) := by
  refine call_valE (fn := rat_made_v) rfl rfl rfl rfl rfl ?_ lo h
  by_cases hn0 : n = 0
  · subst hn0
    have e : mkRat (sgn b 0) d = 0 := by rw [show sgn b 0 = 0 by cases b <;> rfl]; exact mk_zero d
    rw [e]
    have hz := zeroQ_spec
    rw [rv_zero] at hz ⊢
    rw [encB_zero]
    simp -implicitDefEqProofs only [go_sem, ↓reduceIte, reduceCtorEq, Int.reduceLT, Int.reduceLE, Int.reduceToNat, Nat.reduceAdd, Nat.reduceMul, Nat.reduceLeDiff, Nat.reduceLT, Nat.reduceSub, Int.reduceNeg, Int.reduceEq, Int.reduceBEq, Int.reduceBNe, Nat.reduceEqDiff, nil_nil, hz]
  rw [made_rv hn0 h0]
  have hne := beq_ne (fun h => hn0 (enc_nil.1 h))
  have hG := GcdS_spec n d hn hd
  have hg0 : Nat.gcd n d ≠ 0 := by intro h; exact hn0 (Nat.eq_zero_of_gcd_eq_zero_left h)
  have hgl : Nat.gcd n d < 18446744073709551616 := Nat.lt_of_le_of_lt (Nat.gcd_le_left _ (by omega)) hn
  have hD1 := DivS_spec n (Nat.gcd n d) hn hgl hg0
  have hD2 := DivS_spec d (Nat.gcd n d) hd hgl hg0
  have b1 := @bne_enc d
  have b2 := @bne_enc (Nat.gcd n d)
  by_cases hd1 : d = 1
  · subst hd1
    rw [Nat.gcd_one_right, Nat.div_one, Nat.div_one]
    rw [decide_eq_true rfl] at b1
    generalize encB 1 = E at *
    generalize encB n = N at *
    simp -implicitDefEqProofs only [go_sem, ↓reduceIte, reduceCtorEq, Int.reduceLT, Int.reduceLE, Int.reduceToNat, Nat.reduceAdd, Nat.reduceMul, Nat.reduceLeDiff, Nat.reduceLT, Nat.reduceSub, Int.reduceNeg, Int.reduceEq, Int.reduceBEq, Int.reduceBNe, Nat.reduceEqDiff, hne, b1]
  · rw [decide_eq_false hd1] at b1
    by_cases hg1 : Nat.gcd n d = 1
    · rw [hg1] at hG b2 ⊢
      rw [Nat.div_one, Nat.div_one]
      rw [decide_eq_true rfl] at b2
      generalize encB 1 = E at *
      generalize encB d = D at *
      generalize encB n = N at *
      simp -implicitDefEqProofs only [go_sem, ↓reduceIte, reduceCtorEq, Int.reduceLT, Int.reduceLE, Int.reduceToNat, Nat.reduceAdd, Nat.reduceMul, Nat.reduceLeDiff, Nat.reduceLT, Nat.reduceSub, Int.reduceNeg, Int.reduceEq, Int.reduceBEq, Int.reduceBNe, Nat.reduceEqDiff, hne, b1, hG, b2]
    · rw [decide_eq_false hg1] at b2
      generalize encB (Nat.gcd n d) = G at *
      generalize encB (n / Nat.gcd n d) = N' at *
      generalize encB (d / Nat.gcd n d) = D' at *
      generalize encB d = D at *
      generalize encB n = N at *
      simp -implicitDefEqProofs only [go_sem, ↓reduceIte, reduceCtorEq, Int.reduceLT, Int.reduceLE, Int.reduceToNat, Nat.reduceAdd, Nat.reduceMul, Nat.reduceLeDiff, Nat.reduceLT, Nat.reduceSub, Int.reduceNeg, Int.reduceEq, Int.reduceBEq, Int.reduceBNe, Nat.reduceEqDiff, hne, b1, hG, b2, hD1, hD2]
/-- A number of few bytes. -/
structure SQ (q : Rat) : Prop where
  num : q.num.natAbs < 268435456
  den : q.den < 268435456
theorem rvx (q : Rat) : ∃ b x y, rv q = [.bool b, .str x, .str y] := ⟨_, _, _, rfl⟩
theorem GoodZ_spec (c : UInt8) (r : List UInt8) (hc : ¬ ((c.toNat : Int) = 0)) (c2 : (c :: r == [1]) = true) (lo : Nat) (h : VHeap) : callVL vp lo n_rat_Good [.agg [.bool false, .str [], .str (c::r)]] h = some (.bool true, h) := by
  refine call_valE (fn := rat_Good_v) rfl rfl rfl rfl rfl ?_ lo h
  simp -implicitDefEqProofs only [go_sem, ↓reduceIte, reduceCtorEq, Int.reduceLT, Int.reduceLE, Int.reduceToNat, Nat.reduceAdd, Nat.reduceMul, Nat.reduceLeDiff, Nat.reduceLT, Nat.reduceSub, Int.reduceNeg, Int.reduceEq, Int.reduceBEq, Int.reduceBNe, Nat.reduceEqDiff, cons_nil, nil_nil, hc, c2]
theorem GoodQ_spec {q : Rat} (g : SQ q) (lo : Nat) (h : VHeap) : callVL vp lo n_rat_Good [.agg (rv q)] h = some (.bool true, h) := by
  by_cases h0 : q.num = 0
  · have e : q = 0 := Rat.ext h0 (by have := q.reduced; rw [h0] at this; simpa [Nat.Coprime] using this)
    subst e
    rw [rv_zero]
    obtain ⟨c, r, e1, hc⟩ := enc_cons (n := 1) (by decide)
    have c2 := @bne_enc 1
    rw [decide_eq_true rfl, e1] at c2
    rw [e1]
    exact GoodZ_spec c r hc c2 lo h
  · exact GoodS_spec _ _ _ (by omega) q.den_nz (Nat.lt_trans g.num (by decide)) (Nat.lt_trans g.den (by decide)) q.reduced lo h
theorem fitQ_spec {q : Rat} (g : SQ q) (lo : Nat) (h : VHeap) : callVL vp lo n_rat_fit [.agg (rv q)] h = some (.agg (rv q), h) := by
  refine call_valE (fn := rat_fit_v) rfl rfl rfl rfl rfl ?_ lo h
  have hG := GoodQ_spec g
  obtain ⟨b, x, y, e⟩ := rvx q
  rw [e] at hG ⊢
  simp -implicitDefEqProofs only [go_sem, ↓reduceIte, reduceCtorEq, Int.reduceLT, Int.reduceLE, Int.reduceToNat, Nat.reduceAdd, Nat.reduceMul, Nat.reduceLeDiff, Nat.reduceLT, Nat.reduceSub, Int.reduceNeg, Int.reduceEq, Int.reduceBEq, Int.reduceBNe, Nat.reduceEqDiff, hG]
theorem Neg_of {b : Bool} {N D : List UInt8} (hF : ∀ lo h, callVL vp lo n_rat_fit [.agg [.bool b, .str N, .str D]] h = some (.agg [.bool b, .str N, .str D], h)) {e : Bool} (hN : (N == []) = e) (lo : Nat) (h : VHeap) : callVL vp lo n_rat_Neg [.agg [.bool b, .str N, .str D]] h = some (.agg [.bool (if b then false else !e), .str N, .str D], h) := by
  refine call_valE (fn := rat_Neg_v) rfl rfl rfl rfl rfl ?_ lo h
  cases b <;> cases e <;> simp -implicitDefEqProofs only [go_sem, ↓reduceIte, reduceCtorEq, Int.reduceLT, Int.reduceLE, Int.reduceToNat, Nat.reduceAdd, Nat.reduceMul, Nat.reduceLeDiff, Nat.reduceLT, Nat.reduceSub, Int.reduceNeg, Int.reduceEq, Int.reduceBEq, Int.reduceBNe, Nat.reduceEqDiff, hF, hN, Bool.not_true, Bool.not_false]
theorem NegQ_spec {q : Rat} (g : SQ q) (lo : Nat) (h : VHeap) : callVL vp lo n_rat_Neg [.agg (rv q)] h = some (.agg (rv (-q)), h) := by
  have hF := fitQ_spec g
  have e : (encB q.num.natAbs == []) = decide (q.num = 0) := by
    by_cases h0 : q.num = 0
    · rw [h0]; rw [show Int.natAbs 0 = 0 from rfl, encB_zero]; rfl
    · rw [beq_ne (fun h => (show q.num.natAbs ≠ 0 by omega) (enc_nil.1 h)), decide_eq_false h0]
  have := Neg_of hF e lo h
  rw [neg_rv]
  unfold rv
  rw [this]
  congr 4
  by_cases h1 : q.num < 0
  · simp [h1]
  · by_cases h2 : q.num = 0 <;> simp [h1, h2]
end Vg.G3
namespace Vg.G3
open Go Lg Vg.Nm
set_option linter.unusedSimpArgs false
set_option linter.unusedVariables false
set_option maxRecDepth 10000
set_option maxHeartbeats 4000000
attribute [local congr] bind_congr1
attribute [local go_sem] rat_signed_r0 rat_signed_r1 rat_signed_r2 rat_signed_r3 rat_signed_r4 rat_signed_r5 rat_signed_r6 rat_signed_r7 rat_signed_f rat_signed_v rat_Add_r0 rat_Add_r1 rat_Add_r1_d rat_Add_r2 rat_Add_r3 rat_Add_r4 rat_Add_r5 rat_Add_r5_d rat_Add_r6 rat_Add_f rat_Add_v rat_Sub_r0 rat_Sub_r1 rat_Sub_r1_d rat_Sub_f rat_Sub_v rat_Mul_r0 rat_Mul_r1 rat_Mul_r1_d rat_Mul_r2 rat_Mul_r2_d rat_Mul_f rat_Mul_v rat_Div_r0 rat_Div_r1 rat_Div_r1_d rat_Div_r2 rat_Div_r3 rat_Div_r4 rat_Div_r4_d rat_Div_f rat_Div_v rat_Cmp_r0 rat_Cmp_r1 rat_Cmp_r1_d rat_Cmp_r2 rat_Cmp_r3 rat_Cmp_r4 rat_Cmp_r5 rat_Cmp_r6 rat_Cmp_r6_d rat_Cmp_r7 rat_Cmp_r8 rat_Cmp_r9 rat_Cmp_f rat_Cmp_v rat_Max_r0 rat_Max_r1 rat_Max_r2 rat_Max_r3 rat_Max_f rat_Max_v rat_Min_r0 rat_Min_r1 rat_Min_r2 rat_Min_r3 rat_Min_f rat_Min_v rat_Of_r0 rat_Of_r1 rat_Of_r2 rat_Of_r3 rat_Of_f rat_Of_v

theorem beq_enc {m n : Nat} : (encB m == encB n) = decide (m = n) := by
  by_cases h : m = n
  · subst h; rw [decide_eq_true rfl]; exact beq_self_eq_true _
  · rw [decide_eq_false h]; exact beq_ne fun e => h (by rw [← val_enc m, ← val_enc n, e])
theorem sgn_mul (b : Bool) (n d : Nat) : sgn b (n * d) = sgn b n * d := by
  unfold sgn; cases b <;> simp [Int.natCast_mul, Int.neg_mul]
theorem MulN_spec {m n : Nat} (hm : m < 4294967296) (hn : n < 4294967296) (lo : Nat) (h : VHeap) : callVL vp lo n_nat_Mul [.str (encB m), .str (encB n)] h = some (.str (encB (m * n)), h) := by
  have l1 := enc4 hm
  have l2 := enc4 hn
  have := MulS_spec (encB m) (encB n) (by omega) lo h
  rwa [val_enc, val_enc] at this
theorem SubN_spec {m n : Nat} (hm : m < 72057594037927936) (hn : n < 72057594037927936) (lo : Nat) (h : VHeap) : callVL vp lo n_nat_Sub [.str (encB m), .str (encB n)] h = some (.tup (if n ≤ m then [.str (encB (m - n)), .int .i64 0] else [.str [], .int .i64 1]), h) := by
  have l1 := enc7 hm
  have l2 := enc7 hn
  have := Sub_spec (encB m) (encB n) (by omega) (by omega) lo h
  rwa [val_enc, val_enc] at this
/-- signed. -/
theorem signed_spec (b c : Bool) (m n : Nat) (hm : m < 72057594037927936) (hn : n < 72057594037927936) : ∃ (b' : Bool) (k : Nat), sgn b' k = sgn b m + sgn c n ∧ k < 144115188075855872 ∧ ∀ lo h, callVL vp lo n_rat_signed [.bool b, .str (encB m), .bool c, .str (encB n)] h = some (.tup [.bool b', .str (encB k)], h) := by
  have hA := AddS_spec m n hm hn
  have h1 := SubN_spec hm hn
  have h2 := SubN_spec hn hm
  by_cases hbc : b = c
  · subst hbc
    refine ⟨b, m + n, ?_, by omega, fun lo h => ?_⟩
    · unfold sgn; cases b <;> simp <;> omega
    refine call_valE (fn := rat_signed_v) rfl rfl rfl rfl rfl ?_ lo h
    generalize encB m = M at *
    generalize encB n = N at *
    cases b <;> simp -implicitDefEqProofs only [go_sem, ↓reduceIte, reduceCtorEq, Int.reduceLT, Int.reduceLE, Int.reduceToNat, Nat.reduceAdd, Nat.reduceMul, Nat.reduceLeDiff, Nat.reduceLT, Nat.reduceSub, Int.reduceNeg, Int.reduceEq, Int.reduceBEq, Int.reduceBNe, Nat.reduceEqDiff, hA]
  · by_cases hle : n ≤ m
    · rw [if_pos hle] at h1
      refine ⟨b, m - n, ?_, by omega, fun lo h => ?_⟩
      · unfold sgn; cases b <;> cases c <;> simp at hbc ⊢ <;> omega
      refine call_valE (fn := rat_signed_v) rfl rfl rfl rfl rfl ?_ lo h
      generalize encB m = M at *
      generalize encB n = N at *
      cases b <;> cases c <;> first | exact absurd rfl hbc | simp -implicitDefEqProofs only [go_sem, ↓reduceIte, reduceCtorEq, Int.reduceLT, Int.reduceLE, Int.reduceToNat, Nat.reduceAdd, Nat.reduceMul, Nat.reduceLeDiff, Nat.reduceLT, Nat.reduceSub, Int.reduceNeg, Int.reduceEq, Int.reduceBEq, Int.reduceBNe, Nat.reduceEqDiff, h1]
    · rw [if_neg hle] at h1
      rw [if_pos (by omega)] at h2
      refine ⟨c, n - m, ?_, by omega, fun lo h => ?_⟩
      · unfold sgn; cases b <;> cases c <;> simp at hbc ⊢ <;> omega
      refine call_valE (fn := rat_signed_v) rfl rfl rfl rfl rfl ?_ lo h
      generalize encB m = M at *
      generalize encB n = N at *
      cases b <;> cases c <;> first | exact absurd rfl hbc | simp -implicitDefEqProofs only [go_sem, ↓reduceIte, reduceCtorEq, Int.reduceLT, Int.reduceLE, Int.reduceToNat, Nat.reduceAdd, Nat.reduceMul, Nat.reduceLeDiff, Nat.reduceLT, Nat.reduceSub, Int.reduceNeg, Int.reduceEq, Int.reduceBEq, Int.reduceBNe, Nat.reduceEqDiff, h1, h2]
theorem AddQ_spec {p q : Rat} (gp : SQ p) (gq : SQ q) (lo : Nat) (h : VHeap) : callVL vp lo n_rat_Add [.agg (rv p), .agg (rv q)] h = some (.agg (rv (p + q)), h) := by
  refine call_valE (fn := rat_Add_v) rfl rfl rfl rfl rfl ?_ lo h
  have f1 := fitQ_spec gp
  have f2 := fitQ_spec gq
  have n1 := gp.num
  have d1 := gp.den
  have n2 := gq.num
  have d2 := gq.den
  have be := @beq_enc p.den q.den
  by_cases hd : p.den = q.den
  · obtain ⟨b, k, hk, hkl, hS⟩ := signed_spec (decide (p.num < 0)) (decide (q.num < 0)) p.num.natAbs q.num.natAbs (by omega) (by omega)
    rw [sgn_num, sgn_num] at hk
    have hM := made_spec b k p.den (by omega) (by omega) p.den_nz
    rw [hk, ← add_same hd] at hM
    rw [decide_eq_true hd] at be
    unfold rv at f1 f2
    conv => enter [1]; unfold rv
    obtain ⟨b3, x3, y3, e3⟩ := rvx (p + q)
    rw [e3] at hM ⊢
    generalize encB p.num.natAbs = N1 at *
    generalize encB p.den = D1 at *
    generalize encB q.num.natAbs = N2 at *
    generalize encB q.den = D2 at *
    generalize encB k = K at *
    generalize decide (p.num < 0) = B1 at *
    generalize decide (q.num < 0) = B2 at *
    simp -implicitDefEqProofs only [go_sem, ↓reduceIte, reduceCtorEq, Int.reduceLT, Int.reduceLE, Int.reduceToNat, Nat.reduceAdd, Nat.reduceMul, Nat.reduceLeDiff, Nat.reduceLT, Nat.reduceSub, Int.reduceNeg, Int.reduceEq, Int.reduceBEq, Int.reduceBNe, Nat.reduceEqDiff, f1, f2, be, hS, hM]
  · have m1 := MulN_spec (m := p.num.natAbs) (n := q.den) (by omega) (by omega)
    have m2 := MulN_spec (m := q.num.natAbs) (n := p.den) (by omega) (by omega)
    have m3 := MulN_spec (m := p.den) (n := q.den) (by omega) (by omega)
    have p1 : p.num.natAbs * q.den < 72057594037927936 := Nat.lt_of_lt_of_le (Nat.mul_lt_mul'' n1 d2) (by decide)
    have p2 : q.num.natAbs * p.den < 72057594037927936 := Nat.lt_of_lt_of_le (Nat.mul_lt_mul'' n2 d1) (by decide)
    have p3 : p.den * q.den < 72057594037927936 := Nat.lt_of_lt_of_le (Nat.mul_lt_mul'' d1 d2) (by decide)
    obtain ⟨b, k, hk, hkl, hS⟩ := signed_spec (decide (p.num < 0)) (decide (q.num < 0)) _ _ p1 p2
    rw [sgn_mul, sgn_mul, sgn_num, sgn_num] at hk
    have hM := made_spec b k (p.den * q.den) (by omega) (by omega) (Nat.mul_ne_zero p.den_nz q.den_nz)
    rw [hk, ← Rat.add_def'] at hM
    rw [decide_eq_false hd] at be
    unfold rv at f1 f2
    conv => enter [1]; unfold rv
    obtain ⟨b3, x3, y3, e3⟩ := rvx (p + q)
    rw [e3] at hM ⊢
    generalize encB (p.num.natAbs * q.den) = M1 at *
    generalize encB (q.num.natAbs * p.den) = M2 at *
    generalize encB (p.den * q.den) = M3 at *
    generalize encB p.num.natAbs = N1 at *
    generalize encB p.den = D1 at *
    generalize encB q.num.natAbs = N2 at *
    generalize encB q.den = D2 at *
    generalize encB k = K at *
    generalize decide (p.num < 0) = B1 at *
    generalize decide (q.num < 0) = B2 at *
    simp -implicitDefEqProofs only [go_sem, ↓reduceIte, reduceCtorEq, Int.reduceLT, Int.reduceLE, Int.reduceToNat, Nat.reduceAdd, Nat.reduceMul, Nat.reduceLeDiff, Nat.reduceLT, Nat.reduceSub, Int.reduceNeg, Int.reduceEq, Int.reduceBEq, Int.reduceBNe, Nat.reduceEqDiff, f1, f2, be, m1, m2, m3, hS, hM]
theorem neg_num_abs (q : Rat) : (-q).num.natAbs = q.num.natAbs := by rw [Rat.neg_num, Int.natAbs_neg]
theorem SQ.neg {q : Rat} (g : SQ q) : SQ (-q) := ⟨by rw [neg_num_abs]; exact g.num, g.den⟩
theorem SubQ_spec {p q : Rat} (gp : SQ p) (gq : SQ q) (lo : Nat) (h : VHeap) : callVL vp lo n_rat_Sub [.agg (rv p), .agg (rv q)] h = some (.agg (rv (p - q)), h) := by
  refine call_valE (fn := rat_Sub_v) rfl rfl rfl rfl rfl ?_ lo h
  have hN := NegQ_spec gq
  have hA := AddQ_spec gp gq.neg
  rw [← Rat.sub_eq_add_neg] at hA
  obtain ⟨b1, x1, y1, e1⟩ := rvx p
  obtain ⟨b2, x2, y2, e2⟩ := rvx q
  obtain ⟨b3, x3, y3, e3⟩ := rvx (-q)
  obtain ⟨b4, x4, y4, e4⟩ := rvx (p - q)
  rw [e2, e3] at hN
  rw [e1, e3, e4] at hA
  rw [e1, e2, e4]
  simp -implicitDefEqProofs only [go_sem, ↓reduceIte, reduceCtorEq, Int.reduceLT, Int.reduceLE, Int.reduceToNat, Nat.reduceAdd, Nat.reduceMul, Nat.reduceLeDiff, Nat.reduceLT, Nat.reduceSub, Int.reduceNeg, Int.reduceEq, Int.reduceBEq, Int.reduceBNe, Nat.reduceEqDiff, hN, hA]
theorem MulQ_spec {p q : Rat} (gp : SQ p) (gq : SQ q) (lo : Nat) (h : VHeap) : callVL vp lo n_rat_Mul [.agg (rv p), .agg (rv q)] h = some (.agg (rv (p * q)), h) := by
  refine call_valE (fn := rat_Mul_v) rfl rfl rfl rfl rfl ?_ lo h
  have f1 := fitQ_spec gp
  have f2 := fitQ_spec gq
  have n1 := gp.num
  have d1 := gp.den
  have n2 := gq.num
  have d2 := gq.den
  have m1 := MulN_spec (m := p.num.natAbs) (n := q.num.natAbs) (by omega) (by omega)
  have m3 := MulN_spec (m := p.den) (n := q.den) (by omega) (by omega)
  have p1 : p.num.natAbs * q.num.natAbs < 72057594037927936 := Nat.lt_of_lt_of_le (Nat.mul_lt_mul'' n1 n2) (by decide)
  have p3 : p.den * q.den < 72057594037927936 := Nat.lt_of_lt_of_le (Nat.mul_lt_mul'' d1 d2) (by decide)
  have hM := made_spec (decide (p.num < 0) != decide (q.num < 0)) _ (p.den * q.den) (Nat.lt_trans p1 (by decide)) (Nat.lt_trans p3 (by decide)) (Nat.mul_ne_zero p.den_nz q.den_nz)
  have e : sgn (decide (p.num < 0) != decide (q.num < 0)) (p.num.natAbs * q.num.natAbs) = p.num * q.num := by
    have e1 := sgn_num p
    have e2 := sgn_num q
    generalize decide (p.num < 0) = B1 at *
    generalize decide (q.num < 0) = B2 at *
    rw [← e1, ← e2]
    unfold sgn
    cases B1 <;> cases B2 <;> simp [Int.natCast_mul, Int.neg_mul, Int.mul_neg, sgn_abs]
  rw [e, ← Rat.mul_def'] at hM
  unfold rv at f1 f2
  conv => enter [1]; unfold rv
  obtain ⟨b3, x3, y3, e3⟩ := rvx (p * q)
  rw [e3] at hM ⊢
  generalize encB (p.num.natAbs * q.num.natAbs) = M1 at *
  generalize encB (p.den * q.den) = M3 at *
  generalize encB p.num.natAbs = N1 at *
  generalize encB p.den = D1 at *
  generalize encB q.num.natAbs = N2 at *
  generalize encB q.den = D2 at *
  generalize decide (p.num < 0) = B1 at *
  generalize decide (q.num < 0) = B2 at *
  clear e
  cases B1 <;> cases B2 <;> simp only [bne_self_eq_false, Bool.bne_true, Bool.not_false, Bool.bne_false, Bool.true_bne, Bool.false_bne] at hM <;> simp -implicitDefEqProofs only [go_sem, ↓reduceIte, reduceCtorEq, Int.reduceLT, Int.reduceLE, Int.reduceToNat, Nat.reduceAdd, Nat.reduceMul, Nat.reduceLeDiff, Nat.reduceLT, Nat.reduceSub, Int.reduceNeg, Int.reduceEq, Int.reduceBEq, Int.reduceBNe, Nat.reduceEqDiff, f1, f2, m1, m3, hM]
theorem div_mk {p q : Rat} (h0 : q.num ≠ 0) : p / q = mkRat (sgn (decide (p.num < 0) != decide (q.num < 0)) (p.num.natAbs * q.den)) (p.den * q.num.natAbs) := by
  have e1 := sgn_num p
  have e2 := sgn_num q
  have hp : p = ((sgn (decide (p.num < 0)) p.num.natAbs : Int) : Rat) / (p.den : Rat) := by rw [e1, ← Rat.mkRat_eq_div, Rat.mkRat_self]
  have hq : q = ((sgn (decide (q.num < 0)) q.num.natAbs : Int) : Rat) / (q.den : Rat) := by rw [e2, ← Rat.mkRat_eq_div, Rat.mkRat_self]
  have d1 : (p.den : Rat) ≠ 0 := by have := p.den_nz; exact_mod_cast this
  have d2 : (q.den : Rat) ≠ 0 := by have := q.den_nz; exact_mod_cast this
  have hn2 : ((q.num.natAbs : Nat) : Rat) ≠ 0 := by have : q.num.natAbs ≠ 0 := by omega
                                                    exact_mod_cast this
  rw [Rat.mkRat_eq_div]
  generalize decide (p.num < 0) = B1 at *
  generalize decide (q.num < 0) = B2 at *
  generalize p.num.natAbs = m at *
  generalize q.num.natAbs = n at *
  clear e1 e2 h0
  generalize p.den = d at *
  generalize q.den = e at *
  rw [hp, hq]
  clear hp hq
  unfold sgn
  cases B1 <;> cases B2 <;> simp [Rat.intCast_neg, Rat.natCast_mul, Rat.intCast_natCast] <;> grind
theorem DivQ_spec {p q : Rat} (gp : SQ p) (gq : SQ q) (h0 : q.num ≠ 0) (lo : Nat) (h : VHeap) : callVL vp lo n_rat_Div [.agg (rv p), .agg (rv q)] h = some (.tup [.agg (rv (p / q)), .int .i64 0], h) := by
  refine call_valE (fn := rat_Div_v) rfl rfl rfl rfl rfl ?_ lo h
  have f1 := fitQ_spec gp
  have f2 := fitQ_spec gq
  have n1 := gp.num
  have d1 := gp.den
  have n2 := gq.num
  have d2 := gq.den
  have m1 := MulN_spec (m := p.num.natAbs) (n := q.den) (by omega) (by omega)
  have m3 := MulN_spec (m := p.den) (n := q.num.natAbs) (by omega) (by omega)
  have p1 : p.num.natAbs * q.den < 72057594037927936 := Nat.lt_of_lt_of_le (Nat.mul_lt_mul'' n1 d2) (by decide)
  have p3 : p.den * q.num.natAbs < 72057594037927936 := Nat.lt_of_lt_of_le (Nat.mul_lt_mul'' d1 n2) (by decide)
  have hM := made_spec (decide (p.num < 0) != decide (q.num < 0)) _ (p.den * q.num.natAbs) (Nat.lt_trans p1 (by decide)) (Nat.lt_trans p3 (by decide)) (Nat.mul_ne_zero p.den_nz (by omega))
  rw [← div_mk h0] at hM
  have hne := beq_ne (fun h => (show q.num.natAbs ≠ 0 by omega) (enc_nil.1 h))
  unfold rv at f1 f2
  conv => enter [1]; unfold rv
  obtain ⟨b3, x3, y3, e3⟩ := rvx (p / q)
  rw [e3] at hM ⊢
  generalize encB (p.num.natAbs * q.den) = M1 at *
  generalize encB (p.den * q.num.natAbs) = M3 at *
  generalize encB p.num.natAbs = N1 at *
  generalize encB p.den = D1 at *
  generalize encB q.num.natAbs = N2 at *
  generalize encB q.den = D2 at *
  generalize decide (p.num < 0) = B1 at *
  generalize decide (q.num < 0) = B2 at *
  cases B1 <;> cases B2 <;> simp only [bne_self_eq_false, Bool.bne_true, Bool.not_false, Bool.bne_false, Bool.true_bne, Bool.false_bne] at hM <;> simp -implicitDefEqProofs only [go_sem, ↓reduceIte, reduceCtorEq, Int.reduceLT, Int.reduceLE, Int.reduceToNat, Nat.reduceAdd, Nat.reduceMul, Nat.reduceLeDiff, Nat.reduceLT, Nat.reduceSub, Int.reduceNeg, Int.reduceEq, Int.reduceBEq, Int.reduceBNe, Nat.reduceEqDiff, f1, f2, hne, m1, m3, hM]
theorem CmpQ_spec {p q : Rat} (gp : SQ p) (gq : SQ q) (lo : Nat) (h : VHeap) : callVL vp lo n_rat_Cmp [.agg (rv p), .agg (rv q)] h = some (.int .i64 (cmpQ p q), h) := by
  refine call_valE (fn := rat_Cmp_v) rfl rfl rfl rfl rfl ?_ lo h
  have f1 := fitQ_spec gp
  have f2 := fitQ_spec gq
  have n1 := gp.num
  have d1 := gp.den
  have n2 := gq.num
  have d2 := gq.den
  have m1 := MulN_spec (m := p.num.natAbs) (n := q.den) (by omega) (by omega)
  have m2 := MulN_spec (m := q.num.natAbs) (n := p.den) (by omega) (by omega)
  have p1 : p.num.natAbs * q.den < 18446744073709551616 := Nat.lt_of_lt_of_le (Nat.mul_lt_mul'' n1 d2) (by decide)
  have p2 : q.num.natAbs * p.den < 18446744073709551616 := Nat.lt_of_lt_of_le (Nat.mul_lt_mul'' n2 d1) (by decide)
  have l1 := enc8 p1
  have l2 := enc8 p2
  have c := Cmp_spec (encB (p.num.natAbs * q.den)) (encB (q.num.natAbs * p.den)) (by omega) (by omega)
  rw [val_enc, val_enc] at c
  have e := cmpQ_num p q
  have hwr : IntKind.i64.wrap (0 - cmpN (p.num.natAbs * q.den) (q.num.natAbs * p.den)) = -cmpN (p.num.natAbs * q.den) (q.num.natAbs * p.den) := by
    have : -1 ≤ cmpN (p.num.natAbs * q.den) (q.num.natAbs * p.den) ∧ cmpN (p.num.natAbs * q.den) (q.num.natAbs * p.den) ≤ 1 := by unfold cmpN; split; · decide
                                                                                                                                  · split <;> decide
    rw [wrap_id (by omega) (by omega)]; omega
  unfold rv at *
  generalize cmpQ p q = C at *
  generalize cmpN (p.num.natAbs * q.den) (q.num.natAbs * p.den) = R at *
  generalize encB (p.num.natAbs * q.den) = M1 at *
  generalize encB (q.num.natAbs * p.den) = M2 at *
  generalize encB p.num.natAbs = N1 at *
  generalize encB p.den = D1 at *
  generalize encB q.num.natAbs = N2 at *
  generalize encB q.den = D2 at *
  by_cases h1 : p.num < 0 <;> by_cases h2 : q.num < 0 <;> simp only [h1, h2, decide_true, decide_false, ne_eq, not_true, not_false_eq_true, if_true, if_false, reduceCtorEq, Bool.false_eq_true] at e f1 f2 ⊢ <;> subst e <;> simp -implicitDefEqProofs only [go_sem, ↓reduceIte, reduceCtorEq, Int.reduceLT, Int.reduceLE, Int.reduceToNat, Nat.reduceAdd, Nat.reduceMul, Nat.reduceLeDiff, Nat.reduceLT, Nat.reduceSub, Int.reduceNeg, Int.reduceEq, Int.reduceBEq, Int.reduceBNe, Nat.reduceEqDiff, f1, f2, m1, m2, c, hwr]
def maxQ (p q : Rat) : Rat := if q ≤ p then p else q
def minQ (p q : Rat) : Rat := if p ≤ q then p else q
theorem MaxQ_spec {p q : Rat} (gp : SQ p) (gq : SQ q) (lo : Nat) (h : VHeap) : callVL vp lo n_rat_Max [.agg (rv p), .agg (rv q)] h = some (.agg (rv (maxQ p q)), h) := by
  refine call_valE (fn := rat_Max_v) rfl rfl rfl rfl rfl ?_ lo h
  have f1 := fitQ_spec gp
  have f2 := fitQ_spec gq
  have c := CmpQ_spec gp gq
  have i := @cmpQ_ge p q
  obtain ⟨b1, x1, y1, e1⟩ := rvx p
  obtain ⟨b2, x2, y2, e2⟩ := rvx q
  unfold maxQ
  by_cases hle : q ≤ p
  · have i' := i.2 hle
    rw [if_pos hle]
    rw [e1, e2] at c
    rw [e1] at f1 ⊢
    rw [e2]
    simp -implicitDefEqProofs only [go_sem, ↓reduceIte, reduceCtorEq, Int.reduceLT, Int.reduceLE, Int.reduceToNat, Nat.reduceAdd, Nat.reduceMul, Nat.reduceLeDiff, Nat.reduceLT, Nat.reduceSub, Int.reduceNeg, Int.reduceEq, Int.reduceBEq, Int.reduceBNe, Nat.reduceEqDiff, f1, c, i']
  · have i' : ¬ 0 ≤ cmpQ p q := fun h => hle (i.1 h)
    rw [if_neg hle]
    rw [e1, e2] at c
    rw [e2] at f2 ⊢
    rw [e1]
    simp -implicitDefEqProofs only [go_sem, ↓reduceIte, reduceCtorEq, Int.reduceLT, Int.reduceLE, Int.reduceToNat, Nat.reduceAdd, Nat.reduceMul, Nat.reduceLeDiff, Nat.reduceLT, Nat.reduceSub, Int.reduceNeg, Int.reduceEq, Int.reduceBEq, Int.reduceBNe, Nat.reduceEqDiff, f2, c, i']
theorem MinQ_spec {p q : Rat} (gp : SQ p) (gq : SQ q) (lo : Nat) (h : VHeap) : callVL vp lo n_rat_Min [.agg (rv p), .agg (rv q)] h = some (.agg (rv (minQ p q)), h) := by
  refine call_valE (fn := rat_Min_v) rfl rfl rfl rfl rfl ?_ lo h
  have f1 := fitQ_spec gp
  have f2 := fitQ_spec gq
  have c := CmpQ_spec gp gq
  have i := @cmpQ_le p q
  obtain ⟨b1, x1, y1, e1⟩ := rvx p
  obtain ⟨b2, x2, y2, e2⟩ := rvx q
  unfold minQ
  by_cases hle : p ≤ q
  · have i' := i.2 hle
    rw [if_pos hle]
    rw [e1, e2] at c
    rw [e1] at f1 ⊢
    rw [e2]
    simp -implicitDefEqProofs only [go_sem, ↓reduceIte, reduceCtorEq, Int.reduceLT, Int.reduceLE, Int.reduceToNat, Nat.reduceAdd, Nat.reduceMul, Nat.reduceLeDiff, Nat.reduceLT, Nat.reduceSub, Int.reduceNeg, Int.reduceEq, Int.reduceBEq, Int.reduceBNe, Nat.reduceEqDiff, f1, c, i']
  · have i' : ¬ cmpQ p q ≤ 0 := fun h => hle (i.1 h)
    rw [if_neg hle]
    rw [e1, e2] at c
    rw [e2] at f2 ⊢
    rw [e1]
    simp -implicitDefEqProofs only [go_sem, ↓reduceIte, reduceCtorEq, Int.reduceLT, Int.reduceLE, Int.reduceToNat, Nat.reduceAdd, Nat.reduceMul, Nat.reduceLeDiff, Nat.reduceLT, Nat.reduceSub, Int.reduceNeg, Int.reduceEq, Int.reduceBEq, Int.reduceBNe, Nat.reduceEqDiff, f2, c, i']
theorem OfQ_spec {n : Nat} (hn : n < 9223372036854775808) (lo : Nat) (h : VHeap) : callVL vp lo n_rat_Of [.int .i64 (n : Int)] h = some (.agg (rv (n : Rat)), h) := by
  refine call_valE (fn := rat_Of_v) rfl rfl rfl rfl rfl ?_ lo h
  have h1 := natOf_spec n hn
  have hM := made_spec false n 1 (by omega) (by decide) (by decide)
  have e : mkRat (sgn false n) 1 = (n : Rat) := Rat.mkRat_one ..
  rw [e, enc_one] at hM
  have h0 : (0 : Int) ≤ (n : Int) := by omega
  obtain ⟨b1, x1, y1, e1⟩ := rvx (n : Rat)
  rw [e1] at hM ⊢
  generalize encB n = N at *
  simp -implicitDefEqProofs only [go_sem, ↓reduceIte, reduceCtorEq, Int.reduceLT, Int.reduceLE, Int.reduceToNat, Nat.reduceAdd, Nat.reduceMul, Nat.reduceLeDiff, Nat.reduceLT, Nat.reduceSub, Int.reduceNeg, Int.reduceEq, Int.reduceBEq, Int.reduceBNe, Nat.reduceEqDiff, h1, hM, h0]
end Vg.G3
namespace Vg.G3
open Go Lg Vg.Nm
set_option linter.unusedSimpArgs false
set_option linter.unusedVariables false
set_option maxRecDepth 10000
set_option maxHeartbeats 4000000
attribute [local congr] bind_congr1
attribute [local go_sem] rat_Good_r0 rat_Good_r1 rat_Good_r2 rat_Good_r3 rat_Good_f rat_Good_v rat_fit_r0 rat_fit_r1 rat_fit_r2 rat_fit_r3 rat_fit_f rat_fit_v rat_Cmp_r0 rat_Cmp_r1 rat_Cmp_r1_d rat_Cmp_r2 rat_Cmp_r3 rat_Cmp_r4 rat_Cmp_r5 rat_Cmp_r6 rat_Cmp_r6_d rat_Cmp_r7 rat_Cmp_r8 rat_Cmp_r9 rat_Cmp_f rat_Cmp_v rat_Min_r0 rat_Min_r1 rat_Min_r2 rat_Min_r3 rat_Min_f rat_Min_v span_Of_r0 span_Of_r1 span_Of_r2 span_Of_f span_Of_v span_Good_r0 span_Good_r1 span_Good_f span_Good_v see_norm_r0 see_norm_r1 see_norm_r2 see_norm_r3 see_norm_f see_norm_v span_fit_r0 span_fit_r1 span_fit_r2 span_fit_r3 span_fit_f span_fit_v see_within_r0 see_within_r1 see_within_r1_d see_within_r2 see_within_f see_within_v see_meet_r0 see_meet_r1 see_meet_r1_d see_meet_r2 see_meet_r2_d see_meet_r3 see_meet_r3_d see_meet_f see_meet_v

/-- A value that counts as a number. -/
structure FQ (v : List VV) (q : Rat) : Prop where
  form : ∃ b x y, v = [.bool b, .str x, .str y]
  sq : SQ q
  fit : ∀ lo h, callVL vp lo n_rat_fit [.agg v] h = some (.agg (rv q), h)
theorem SQ.fq {q : Rat} (g : SQ q) : FQ (rv q) q := ⟨rvx q, g, fitQ_spec g⟩
theorem SQ.zero : SQ 0 := ⟨by decide, by decide⟩
def rz : List VV := [.bool false, .str [], .str []]
theorem rz_fq : FQ rz 0 := by
  refine ⟨⟨_, _, _, rfl⟩, SQ.zero, fun lo h => ?_⟩
  have hG : ∀ lo h, callVL vp lo n_rat_Good [.agg rz] h = some (.bool false, h) := fun lo h => by
    refine call_valE (fn := rat_Good_v) rfl rfl rfl rfl rfl ?_ lo h
    unfold rz
    simp -implicitDefEqProofs only [go_sem, ↓reduceIte, reduceCtorEq, Int.reduceLT, Int.reduceLE, Int.reduceToNat, Nat.reduceAdd, Nat.reduceMul, Nat.reduceLeDiff, Nat.reduceLT, Nat.reduceSub, Int.reduceNeg, Int.reduceEq, Int.reduceBEq, Int.reduceBNe, Nat.reduceEqDiff, nil_nil]
  have hz := zeroQ_spec
  refine call_valE (fn := rat_fit_v) rfl rfl rfl rfl rfl ?_ lo h
  obtain ⟨b, x, y, e⟩ := rvx 0
  rw [e] at hz ⊢
  unfold rz at *
  simp -implicitDefEqProofs only [go_sem, ↓reduceIte, reduceCtorEq, Int.reduceLT, Int.reduceLE, Int.reduceToNat, Nat.reduceAdd, Nat.reduceMul, Nat.reduceLeDiff, Nat.reduceLT, Nat.reduceSub, Int.reduceNeg, Int.reduceEq, Int.reduceBEq, Int.reduceBNe, Nat.reduceEqDiff, hG, hz]
theorem CmpF_spec {u v : List VV} {p q : Rat} (gu : FQ u p) (gv : FQ v q) (lo : Nat) (h : VHeap) : callVL vp lo n_rat_Cmp [.agg u, .agg v] h = some (.int .i64 (cmpQ p q), h) := by
  obtain ⟨b1, x1, y1, rfl⟩ := gu.form
  obtain ⟨b2, x2, y2, rfl⟩ := gv.form
  refine call_valE (fn := rat_Cmp_v) rfl rfl rfl rfl rfl ?_ lo h
  have f1 := gu.fit
  have f2 := gv.fit
  have gp := gu.sq
  have gq := gv.sq
  have n1 := gp.num
  have d1 := gp.den
  have n2 := gq.num
  have d2 := gq.den
  have m1 := MulN_spec (m := p.num.natAbs) (n := q.den) (by omega) (by omega)
  have m2 := MulN_spec (m := q.num.natAbs) (n := p.den) (by omega) (by omega)
  have p1 : p.num.natAbs * q.den < 18446744073709551616 := Nat.lt_of_lt_of_le (Nat.mul_lt_mul'' n1 d2) (by decide)
  have p2 : q.num.natAbs * p.den < 18446744073709551616 := Nat.lt_of_lt_of_le (Nat.mul_lt_mul'' n2 d1) (by decide)
  have l1 := enc8 p1
  have l2 := enc8 p2
  have c := Cmp_spec (encB (p.num.natAbs * q.den)) (encB (q.num.natAbs * p.den)) (by omega) (by omega)
  rw [val_enc, val_enc] at c
  have e := cmpQ_num p q
  have hwr : IntKind.i64.wrap (0 - cmpN (p.num.natAbs * q.den) (q.num.natAbs * p.den)) = -cmpN (p.num.natAbs * q.den) (q.num.natAbs * p.den) := by
    have : -1 ≤ cmpN (p.num.natAbs * q.den) (q.num.natAbs * p.den) ∧ cmpN (p.num.natAbs * q.den) (q.num.natAbs * p.den) ≤ 1 := by
      unfold cmpN; split
      · decide
      · split <;> decide
    rw [wrap_id (by omega) (by omega)]; omega
  unfold rv at *
  clear gu gv
  generalize cmpQ p q = C at *
  generalize cmpN (p.num.natAbs * q.den) (q.num.natAbs * p.den) = R at *
  generalize encB (p.num.natAbs * q.den) = M1 at *
  generalize encB (q.num.natAbs * p.den) = M2 at *
  generalize encB p.num.natAbs = N1 at *
  generalize encB p.den = D1 at *
  generalize encB q.num.natAbs = N2 at *
  generalize encB q.den = D2 at *
  by_cases h1 : p.num < 0 <;> by_cases h2 : q.num < 0 <;> simp only [h1, h2, decide_true, decide_false, ne_eq, not_true, not_false_eq_true, if_true, if_false, reduceCtorEq, Bool.false_eq_true] at e f1 f2 ⊢ <;> subst e <;> simp -implicitDefEqProofs only [go_sem, ↓reduceIte, reduceCtorEq, Int.reduceLT, Int.reduceLE, Int.reduceToNat, Nat.reduceAdd, Nat.reduceMul, Nat.reduceLeDiff, Nat.reduceLT, Nat.reduceSub, Int.reduceNeg, Int.reduceEq, Int.reduceBEq, Int.reduceBNe, Nat.reduceEqDiff, f1, f2, m1, m2, c, hwr]
theorem MinF_spec {u v : List VV} {p q : Rat} (gu : FQ u p) (gv : FQ v q) (lo : Nat) (h : VHeap) : callVL vp lo n_rat_Min [.agg u, .agg v] h = some (.agg (rv (minQ p q)), h) := by
  obtain ⟨b3, x3, y3, rfl⟩ := gu.form
  obtain ⟨b4, x4, y4, rfl⟩ := gv.form
  refine call_valE (fn := rat_Min_v) rfl rfl rfl rfl rfl ?_ lo h
  have f1 := gu.fit
  have f2 := gv.fit
  have c := CmpF_spec gu gv
  have i := @cmpQ_le p q
  obtain ⟨b1, x1, y1, e1⟩ := rvx p
  obtain ⟨b2, x2, y2, e2⟩ := rvx q
  unfold minQ
  by_cases hle : p ≤ q
  · have i' := i.2 hle
    rw [if_pos hle]
    rw [e1] at f1 ⊢
    simp -implicitDefEqProofs only [go_sem, ↓reduceIte, reduceCtorEq, Int.reduceLT, Int.reduceLE, Int.reduceToNat, Nat.reduceAdd, Nat.reduceMul, Nat.reduceLeDiff, Nat.reduceLT, Nat.reduceSub, Int.reduceNeg, Int.reduceEq, Int.reduceBEq, Int.reduceBNe, Nat.reduceEqDiff, f1, c, i']
  · have i' : ¬ cmpQ p q ≤ 0 := fun h => hle (i.1 h)
    rw [if_neg hle]
    rw [e2] at f2 ⊢
    simp -implicitDefEqProofs only [go_sem, ↓reduceIte, reduceCtorEq, Int.reduceLT, Int.reduceLE, Int.reduceToNat, Nat.reduceAdd, Nat.reduceMul, Nat.reduceLeDiff, Nat.reduceLT, Nat.reduceSub, Int.reduceNeg, Int.reduceEq, Int.reduceBEq, Int.reduceBNe, Nat.reduceEqDiff, f2, c, i']
theorem minQ_self (p : Rat) : minQ p p = p := by unfold minQ; split <;> rfl
theorem spanOf_spec {u : List VV} {p : Rat} (gu : FQ u p) (lo : Nat) (h : VHeap) : callVL vp lo n_span_Of [.agg u] h = some (.agg (rv p ++ rv p), h) := by
  obtain ⟨b3, x3, y3, rfl⟩ := gu.form
  refine call_valE (fn := span_Of_v) rfl rfl rfl rfl rfl ?_ lo h
  have m := MinF_spec gu gu
  rw [minQ_self] at m
  obtain ⟨b1, x1, y1, e1⟩ := rvx p
  rw [e1] at m ⊢
  simp only [List.cons_append, List.nil_append]
  simp -implicitDefEqProofs only [go_sem, ↓reduceIte, reduceCtorEq, Int.reduceLT, Int.reduceLE, Int.reduceToNat, Nat.reduceAdd, Nat.reduceMul, Nat.reduceLeDiff, Nat.reduceLT, Nat.reduceSub, Int.reduceNeg, Int.reduceEq, Int.reduceBEq, Int.reduceBNe, Nat.reduceEqDiff, m]
theorem spanGood_spec {a b : Rat} (ga : SQ a) (gb : SQ b) (lo : Nat) (h : VHeap) : callVL vp lo n_span_Good [.agg (rv a ++ rv b)] h = some (.bool (decide (a ≤ b)), h) := by
  refine call_valE (fn := span_Good_v) rfl rfl rfl rfl rfl ?_ lo h
  have h1 := GoodQ_spec ga
  have h2 := GoodQ_spec gb
  have c := CmpQ_spec ga gb
  have i := @cmpQ_le a b
  obtain ⟨b1, x1, y1, e1⟩ := rvx a
  obtain ⟨b2, x2, y2, e2⟩ := rvx b
  rw [e1] at h1
  rw [e2] at h2
  rw [e1, e2] at c ⊢
  by_cases hle : a ≤ b
  · have i' := i.2 hle
    rw [decide_eq_true hle]
    simp only [List.cons_append, List.nil_append]
    simp -implicitDefEqProofs only [go_sem, ↓reduceIte, reduceCtorEq, Int.reduceLT, Int.reduceLE, Int.reduceToNat, Nat.reduceAdd, Nat.reduceMul, Nat.reduceLeDiff, Nat.reduceLT, Nat.reduceSub, Int.reduceNeg, Int.reduceEq, Int.reduceBEq, Int.reduceBNe, Nat.reduceEqDiff, h1, h2, c, i']
  · have i' : ¬ cmpQ a b ≤ 0 := fun h => hle (i.1 h)
    rw [decide_eq_false hle]
    simp only [List.cons_append, List.nil_append]
    simp -implicitDefEqProofs only [go_sem, ↓reduceIte, reduceCtorEq, Int.reduceLT, Int.reduceLE, Int.reduceToNat, Nat.reduceAdd, Nat.reduceMul, Nat.reduceLeDiff, Nat.reduceLT, Nat.reduceSub, Int.reduceNeg, Int.reduceEq, Int.reduceBEq, Int.reduceBNe, Nat.reduceEqDiff, h1, h2, c, i']
/-- A good span. -/
structure SP (a b : Rat) : Prop where
  ga : SQ a
  gb : SQ b
  le : a ≤ b
theorem norm_spec {a b : Rat} (g : SP a b) (lo : Nat) (h : VHeap) : callVL vp lo n_see_norm [.agg (rv a ++ rv b)] h = some (.agg (rv a ++ rv b), h) := by
  refine call_valE (fn := see_norm_v) rfl rfl rfl rfl rfl ?_ lo h
  have hG := spanGood_spec g.ga g.gb
  rw [decide_eq_true g.le] at hG
  obtain ⟨b1, x1, y1, e1⟩ := rvx a
  obtain ⟨b2, x2, y2, e2⟩ := rvx b
  rw [e1, e2] at hG ⊢
  simp only [List.cons_append, List.nil_append] at hG ⊢
  simp -implicitDefEqProofs only [go_sem, ↓reduceIte, reduceCtorEq, Int.reduceLT, Int.reduceLE, Int.reduceToNat, Nat.reduceAdd, Nat.reduceMul, Nat.reduceLeDiff, Nat.reduceLT, Nat.reduceSub, Int.reduceNeg, Int.reduceEq, Int.reduceBEq, Int.reduceBNe, Nat.reduceEqDiff, hG]
theorem spanfit_spec {a b : Rat} (g : SP a b) (lo : Nat) (h : VHeap) : callVL vp lo n_span_fit [.agg (rv a ++ rv b)] h = some (.agg (rv a ++ rv b), h) := by
  refine call_valE (fn := span_fit_v) rfl rfl rfl rfl rfl ?_ lo h
  have hG := spanGood_spec g.ga g.gb
  rw [decide_eq_true g.le] at hG
  obtain ⟨b1, x1, y1, e1⟩ := rvx a
  obtain ⟨b2, x2, y2, e2⟩ := rvx b
  rw [e1, e2] at hG ⊢
  simp only [List.cons_append, List.nil_append] at hG ⊢
  simp -implicitDefEqProofs only [go_sem, ↓reduceIte, reduceCtorEq, Int.reduceLT, Int.reduceLE, Int.reduceToNat, Nat.reduceAdd, Nat.reduceMul, Nat.reduceLeDiff, Nat.reduceLT, Nat.reduceSub, Int.reduceNeg, Int.reduceEq, Int.reduceBEq, Int.reduceBNe, Nat.reduceEqDiff, hG]
theorem within_spec {a b c d : Rat} (g : SP a b) (k : SP c d) (lo : Nat) (h : VHeap) : callVL vp lo n_see_within [.agg (rv a ++ rv b), .agg (rv c ++ rv d)] h = some (.bool (decide (c ≤ a) && decide (b ≤ d)), h) := by
  refine call_valE (fn := see_within_v) rfl rfl rfl rfl rfl ?_ lo h
  have n1 := norm_spec g
  have n2 := norm_spec k
  have c1 := CmpQ_spec k.ga g.ga
  have c2 := CmpQ_spec g.gb k.gb
  have i1 := @cmpQ_le c a
  have i2 := @cmpQ_le b d
  obtain ⟨b1, x1, y1, e1⟩ := rvx a
  obtain ⟨b2, x2, y2, e2⟩ := rvx b
  obtain ⟨b3, x3, y3, e3⟩ := rvx c
  obtain ⟨b4, x4, y4, e4⟩ := rvx d
  rw [e3, e1] at c1
  rw [e2, e4] at c2
  rw [e1, e2] at n1
  rw [e3, e4] at n2
  rw [e1, e2, e3, e4]
  simp only [List.cons_append, List.nil_append] at n1 n2 ⊢
  by_cases l1 : c ≤ a
  · have i1' := i1.2 l1
    by_cases l2 : b ≤ d
    · have i2' := i2.2 l2
      rw [decide_eq_true l1, decide_eq_true l2]
      simp -implicitDefEqProofs only [go_sem, ↓reduceIte, reduceCtorEq, Int.reduceLT, Int.reduceLE, Int.reduceToNat, Nat.reduceAdd, Nat.reduceMul, Nat.reduceLeDiff, Nat.reduceLT, Nat.reduceSub, Int.reduceNeg, Int.reduceEq, Int.reduceBEq, Int.reduceBNe, Nat.reduceEqDiff, n1, n2, c1, c2, i1', i2', Bool.and_true, Bool.and_false]
    · have i2' : ¬ cmpQ b d ≤ 0 := fun h => l2 (i2.1 h)
      rw [decide_eq_true l1, decide_eq_false l2]
      simp -implicitDefEqProofs only [go_sem, ↓reduceIte, reduceCtorEq, Int.reduceLT, Int.reduceLE, Int.reduceToNat, Nat.reduceAdd, Nat.reduceMul, Nat.reduceLeDiff, Nat.reduceLT, Nat.reduceSub, Int.reduceNeg, Int.reduceEq, Int.reduceBEq, Int.reduceBNe, Nat.reduceEqDiff, n1, n2, c1, c2, i1', i2', Bool.and_true, Bool.and_false]
  · have i1' : ¬ cmpQ c a ≤ 0 := fun h => l1 (i1.1 h)
    rw [decide_eq_false l1, Bool.false_and]
    simp -implicitDefEqProofs only [go_sem, ↓reduceIte, reduceCtorEq, Int.reduceLT, Int.reduceLE, Int.reduceToNat, Nat.reduceAdd, Nat.reduceMul, Nat.reduceLeDiff, Nat.reduceLT, Nat.reduceSub, Int.reduceNeg, Int.reduceEq, Int.reduceBEq, Int.reduceBNe, Nat.reduceEqDiff, n1, n2, c1, i1', Bool.and_true, Bool.and_false]
theorem maxQ_sq {a b : Rat} (ga : SQ a) (gb : SQ b) : SQ (maxQ a b) := by unfold maxQ; split <;> assumption
theorem minQ_sq {a b : Rat} (ga : SQ a) (gb : SQ b) : SQ (minQ a b) := by unfold minQ; split <;> assumption
theorem meet_spec {a b c d : Rat} (g : SP a b) (k : SP c d) (lo : Nat) (h : VHeap) : callVL vp lo n_see_meet [.agg (rv a ++ rv b), .agg (rv c ++ rv d)] h = some (.tup [.agg (rv (maxQ a c) ++ rv (minQ b d)), .bool (decide (maxQ a c ≤ minQ b d))], h) := by
  refine call_valE (fn := see_meet_v) rfl rfl rfl rfl rfl ?_ lo h
  have n1 := norm_spec g
  have n2 := norm_spec k
  have m1 := MaxQ_spec g.ga k.ga
  have m2 := MinQ_spec g.gb k.gb
  have c1 := CmpQ_spec (maxQ_sq g.ga k.ga) (minQ_sq g.gb k.gb)
  have i1 := @cmpQ_le (maxQ a c) (minQ b d)
  generalize maxQ a c = P at *
  generalize minQ b d = Q at *
  obtain ⟨b1, x1, y1, e1⟩ := rvx a
  obtain ⟨b2, x2, y2, e2⟩ := rvx b
  obtain ⟨b3, x3, y3, e3⟩ := rvx c
  obtain ⟨b4, x4, y4, e4⟩ := rvx d
  obtain ⟨b5, x5, y5, e5⟩ := rvx P
  obtain ⟨b6, x6, y6, e6⟩ := rvx Q
  rw [e1, e3, e5] at m1
  rw [e2, e4, e6] at m2
  rw [e5, e6] at c1
  rw [e1, e2] at n1
  rw [e3, e4] at n2
  rw [e1, e2, e3, e4, e5, e6]
  simp only [List.cons_append, List.nil_append] at n1 n2 ⊢
  by_cases l1 : P ≤ Q
  · have i1' := i1.2 l1
    rw [decide_eq_true l1]
    simp -implicitDefEqProofs only [go_sem, ↓reduceIte, reduceCtorEq, Int.reduceLT, Int.reduceLE, Int.reduceToNat, Nat.reduceAdd, Nat.reduceMul, Nat.reduceLeDiff, Nat.reduceLT, Nat.reduceSub, Int.reduceNeg, Int.reduceEq, Int.reduceBEq, Int.reduceBNe, Nat.reduceEqDiff, n1, n2, m1, m2, c1, i1']
  · have i1' : ¬ cmpQ P Q ≤ 0 := fun h => l1 (i1.1 h)
    rw [decide_eq_false l1]
    simp -implicitDefEqProofs only [go_sem, ↓reduceIte, reduceCtorEq, Int.reduceLT, Int.reduceLE, Int.reduceToNat, Nat.reduceAdd, Nat.reduceMul, Nat.reduceLeDiff, Nat.reduceLT, Nat.reduceSub, Int.reduceNeg, Int.reduceEq, Int.reduceBEq, Int.reduceBNe, Nat.reduceEqDiff, n1, n2, m1, m2, c1, i1']
end Vg.G3
namespace Vg.G3
open Go Lg Vg.Nm
set_option linter.unusedSimpArgs false
set_option linter.unusedVariables false
set_option maxRecDepth 10000
set_option maxHeartbeats 4000000
attribute [local congr] bind_congr1
attribute [local go_sem] see_Inside_r0 see_Inside_r1 see_Inside_f see_Inside_v see_Narrow_r0 see_Narrow_r1 see_Narrow_r2 see_Narrow_r3 see_Narrow_r4 see_Narrow_r5 see_Narrow_r6 see_Narrow_f see_Narrow_v see_Of_r0 see_Of_r1 see_Of_r2 see_Of_r3 see_Of_r3_d see_Of_f see_Of_v

/-- A pose. -/
structure Po where
  x1 : Rat
  x2 : Rat
  y1 : Rat
  y2 : Rat
  t1 : Rat
  t2 : Rat
def Po.v (p : Po) : List VV := (rv p.x1 ++ rv p.x2) ++ ((rv p.y1 ++ rv p.y2) ++ (rv p.t1 ++ rv p.t2))
structure Po.ok (p : Po) : Prop where
  x : SP p.x1 p.x2
  y : SP p.y1 p.y2
  t : SP p.t1 p.t2
def frv (x y t : List VV) : List VV := (x ++ y) ++ (VV.bool false :: t)
def Po.has (p : Po) (x y t : Rat) : Bool := (decide (p.x1 ≤ x) && decide (x ≤ p.x2)) && (decide (p.y1 ≤ y) && decide (y ≤ p.y2)) && (decide (p.t1 ≤ t) && decide (t ≤ p.t2))
def Po.inB (p q : Po) : Bool := (decide (q.x1 ≤ p.x1) && decide (p.x2 ≤ q.x2)) && (decide (q.y1 ≤ p.y1) && decide (p.y2 ≤ q.y2)) && (decide (q.t1 ≤ p.t1) && decide (p.t2 ≤ q.t2))
theorem Inside_spec {p q : Po} (g : p.ok) (k : q.ok) (lo : Nat) (h : VHeap) : callVL vp lo n_see_Inside [.agg p.v, .agg q.v] h = some (.bool (p.inB q), h) := by
  refine call_valE (fn := see_Inside_v) rfl rfl rfl rfl rfl ?_ lo h
  have k1 := within_spec g.x k.x
  have k2 := within_spec g.y k.y
  have k3 := within_spec g.t k.t
  unfold Po.v Po.inB
  generalize (decide (q.x1 ≤ p.x1) && decide (p.x2 ≤ q.x2)) = B1 at *
  generalize (decide (q.y1 ≤ p.y1) && decide (p.y2 ≤ q.y2)) = B2 at *
  generalize (decide (q.t1 ≤ p.t1) && decide (p.t2 ≤ q.t2)) = B3 at *
  obtain ⟨p1, q1, r1, e1⟩ := rvx p.x1
  obtain ⟨p2, q2, r2, e2⟩ := rvx p.x2
  obtain ⟨p3, q3, r3, e3⟩ := rvx p.y1
  obtain ⟨p4, q4, r4, e4⟩ := rvx p.y2
  obtain ⟨p5, q5, r5, e5⟩ := rvx p.t1
  obtain ⟨p6, q6, r6, e6⟩ := rvx p.t2
  obtain ⟨p11, q11, r11, e11⟩ := rvx q.x1
  obtain ⟨p12, q12, r12, e12⟩ := rvx q.x2
  obtain ⟨p13, q13, r13, e13⟩ := rvx q.y1
  obtain ⟨p14, q14, r14, e14⟩ := rvx q.y2
  obtain ⟨p15, q15, r15, e15⟩ := rvx q.t1
  obtain ⟨p16, q16, r16, e16⟩ := rvx q.t2
  rw [e1, e2, e11, e12] at k1
  rw [e3, e4, e13, e14] at k2
  rw [e5, e6, e15, e16] at k3
  rw [e1, e2, e3, e4, e5, e6, e11, e12, e13, e14, e15, e16]
  simp only [List.cons_append, List.nil_append] at k1 k2 k3 ⊢
  cases B1 <;> cases B2 <;> cases B3 <;> simp only [Bool.and_true, Bool.and_false, Bool.true_and, Bool.false_and] <;> simp -implicitDefEqProofs only [go_sem, ↓reduceIte, reduceCtorEq, Int.reduceLT, Int.reduceLE, Int.reduceToNat, Nat.reduceAdd, Nat.reduceMul, Nat.reduceLeDiff, Nat.reduceLT, Nat.reduceSub, Int.reduceNeg, Int.reduceEq, Int.reduceBEq, Int.reduceBNe, Nat.reduceEqDiff, k1, k2, k3]
theorem Po.vx (p : Po) : ∃ b1 n1 d1 b2 n2 d2 b3 n3 d3 b4 n4 d4 b5 n5 d5 b6 n6 d6, p.v = [.bool b1, .str n1, .str d1, .bool b2, .str n2, .str d2, .bool b3, .str n3, .str d3, .bool b4, .str n4, .str d4, .bool b5, .str n5, .str d5, .bool b6, .str n6, .str d6] := ⟨_, _, _, _, _, _, _, _, _, _, _, _, _, _, _, _, _, _, rfl⟩
def Po.meet (p q : Po) : Po := ⟨maxQ p.x1 q.x1, minQ p.x2 q.x2, maxQ p.y1 q.y1, minQ p.y2 q.y2, maxQ p.t1 q.t1, minQ p.t2 q.t2⟩
def Po.nz : List VV := rz ++ (rz ++ (rz ++ (rz ++ (rz ++ rz))))
def Po.meets (p q : Po) : Bool := decide (maxQ p.x1 q.x1 ≤ minQ p.x2 q.x2) && decide (maxQ p.y1 q.y1 ≤ minQ p.y2 q.y2) && decide (maxQ p.t1 q.t1 ≤ minQ p.t2 q.t2)
theorem Narrow_spec {p q : Po} (g : p.ok) (k : q.ok) (lo : Nat) (h : VHeap) : callVL vp lo n_see_Narrow [.agg p.v, .agg q.v] h = some (.tup [.agg (if p.meets q then (p.meet q).v else Po.nz), .int .i64 (if p.meets q then 0 else 4)], h) := by
  refine call_valE (fn := see_Narrow_v) rfl rfl rfl rfl rfl ?_ lo h
  have k1 := meet_spec g.x k.x
  have k2 := meet_spec g.y k.y
  have k3 := meet_spec g.t k.t
  unfold Po.v Po.meets Po.meet Po.nz rz
  generalize decide (maxQ p.x1 q.x1 ≤ minQ p.x2 q.x2) = B1 at *
  generalize decide (maxQ p.y1 q.y1 ≤ minQ p.y2 q.y2) = B2 at *
  generalize decide (maxQ p.t1 q.t1 ≤ minQ p.t2 q.t2) = B3 at *
  obtain ⟨c1, c2, c3, e21⟩ := rvx (maxQ p.x1 q.x1)
  obtain ⟨d1, d2, d3, e22⟩ := rvx (minQ p.x2 q.x2)
  obtain ⟨c4, c5, c6, e23⟩ := rvx (maxQ p.y1 q.y1)
  obtain ⟨d4, d5, d6, e24⟩ := rvx (minQ p.y2 q.y2)
  obtain ⟨c7, c8, c9, e25⟩ := rvx (maxQ p.t1 q.t1)
  obtain ⟨d7, d8, d9, e26⟩ := rvx (minQ p.t2 q.t2)
  obtain ⟨p1, q1, r1, e1⟩ := rvx p.x1
  obtain ⟨p2, q2, r2, e2⟩ := rvx p.x2
  obtain ⟨p3, q3, r3, e3⟩ := rvx p.y1
  obtain ⟨p4, q4, r4, e4⟩ := rvx p.y2
  obtain ⟨p5, q5, r5, e5⟩ := rvx p.t1
  obtain ⟨p6, q6, r6, e6⟩ := rvx p.t2
  obtain ⟨p11, q11, r11, e11⟩ := rvx q.x1
  obtain ⟨p12, q12, r12, e12⟩ := rvx q.x2
  obtain ⟨p13, q13, r13, e13⟩ := rvx q.y1
  obtain ⟨p14, q14, r14, e14⟩ := rvx q.y2
  obtain ⟨p15, q15, r15, e15⟩ := rvx q.t1
  obtain ⟨p16, q16, r16, e16⟩ := rvx q.t2
  rw [e1, e2, e11, e12, e21, e22] at k1
  rw [e3, e4, e13, e14, e23, e24] at k2
  rw [e5, e6, e15, e16, e25, e26] at k3
  simp only [e1, e2, e3, e4, e5, e6, e11, e12, e13, e14, e15, e16, e21, e22, e23, e24, e25, e26, List.cons_append, List.nil_append] at k1 k2 k3 ⊢
  clear e1 e2 e3 e4 e5 e6 e11 e12 e13 e14 e15 e16 e21 e22 e23 e24 e25 e26
  cases B1 <;> cases B2 <;> cases B3 <;> simp only [Bool.and_true, Bool.and_false, Bool.true_and, Bool.false_and, if_true, if_false, Bool.false_eq_true] <;> simp -implicitDefEqProofs only [go_sem, ↓reduceIte, reduceCtorEq, Int.reduceLT, Int.reduceLE, Int.reduceToNat, Nat.reduceAdd, Nat.reduceMul, Nat.reduceLeDiff, Nat.reduceLT, Nat.reduceSub, Int.reduceNeg, Int.reduceEq, Int.reduceBEq, Int.reduceBNe, Nat.reduceEqDiff, k1, k2, k3]
theorem seeOf_spec {u v w : List VV} {x y t : Rat} (gu : FQ u x) (gv : FQ v y) (gw : FQ w t) (lo : Nat) (h : VHeap) : callVL vp lo n_see_Of [.agg (frv u v w)] h = some (.tup [.agg (Po.mk x x y y t t).v, .int .i64 0], h) := by
  have k1 := spanOf_spec gu
  have k2 := spanOf_spec gv
  have k3 := spanOf_spec gw
  obtain ⟨b1, x1, y1, rfl⟩ := gu.form
  obtain ⟨b2, x2, y2, rfl⟩ := gv.form
  obtain ⟨b3, x3, y3, rfl⟩ := gw.form
  refine call_valE (fn := see_Of_v) rfl rfl rfl rfl rfl ?_ lo h
  unfold Po.v frv
  obtain ⟨p1, q1, r1, e1⟩ := rvx x
  obtain ⟨p2, q2, r2, e2⟩ := rvx y
  obtain ⟨p3, q3, r3, e3⟩ := rvx t
  simp only [e1, e2, e3, List.cons_append, List.nil_append] at k1 k2 k3 ⊢
  simp -implicitDefEqProofs only [go_sem, ↓reduceIte, reduceCtorEq, Int.reduceLT, Int.reduceLE, Int.reduceToNat, Nat.reduceAdd, Nat.reduceMul, Nat.reduceLeDiff, Nat.reduceLT, Nat.reduceSub, Int.reduceNeg, Int.reduceEq, Int.reduceBEq, Int.reduceBNe, Nat.reduceEqDiff, k1, k2, k3]
theorem SQ.nat {n : Nat} (h : n < 268435456) : SQ (n : Rat) := ⟨by rw [Rat.num_natCast]; exact h, by rw [Rat.den_natCast]; decide⟩
theorem SP.self {a : Rat} (g : SQ a) : SP a a := ⟨g, g, Rat.le_refl⟩
end Vg.G3
