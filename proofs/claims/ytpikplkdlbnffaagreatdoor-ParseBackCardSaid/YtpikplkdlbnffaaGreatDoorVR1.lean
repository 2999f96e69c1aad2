import Derived.Test.YtpikplkdlbnffaaGreatDoorVP6
import Derived.Test.YtpikplkdlbnffaaGreatDoorVN5
import Derived.Test.YtpikplkdlbnffaaGreatDoorVVgHeap
namespace Vg.G3
open Go Lg Vg.Nm
set_option linter.unusedSimpArgs false
set_option linter.unusedVariables false
set_option maxRecDepth 10000
set_option maxHeartbeats 4000000
attribute [local congr] bind_congr1
attribute [local go_sem] nat_words_r0 nat_words_r1 nat_words_r2 nat_words_r3 nat_words_r4 nat_words_r5 nat_words_r6 nat_words_r7 nat_words_r7_d nat_words_r8 nat_words_r9 nat_words_f nat_words_v

def wlen (a : List UInt8) : Nat := ((trimB a).length + 3) / 4
theorem words_spec (a : List UInt8) (ha : a.length < 1000000) (lo : Nat) (h : VHeap) (hlo : lo ≤ h.length) : callVL vp lo n_nat_words [.str a] h = some (.hs h.length 0 (wlen a) 1,h ++ [.cells true (dcells (wlen a) (valB a))]) := by
  obtain ⟨P,hP⟩ : ∃ P : VV × VHeap → Prop,P = fun r => r = (.hs h.length 0 (wlen a) 1,h ++ [.cells true (dcells (wlen a) (valB a))]) := ⟨_,rfl⟩
  have key := call_body (p := vp) (lo := lo) (h := h) (f := n_nat_words) (fn := nat_words_v) (args := [.str a]) (P := P) rfl (.inr rfl) rfl ?_
  · obtain ⟨r,hr,hp⟩ := key; subst hP; rw [hr,hp]
  have hP1 : P (.hs h.length 0 (wlen a) 1,h ++ [.cells true (dcells (wlen a) (valB a))]) := by subst hP; rfl
  clear hP
  have h1 := trim_spec a
  have la : (trimB a).length ≤ a.length := by rw [trim_enc]; exact enc_len (valB_lt a)
  rw [← trim_val a] at hP1
  unfold wlen at hP1
  generalize trimB a = x at *
  have hw3 : IntKind.i64.wrap ((x.length : Int) + 3) = ((x.length + 3 : Nat) : Int) := by rw [wrap_id (by omega) (by omega)]; rfl
  have hq3 : IntKind.i64.wrap (((x.length + 3 : Nat) : Int).tdiv 4) = (((x.length + 3) / 4 : Nat) : Int) := by
    rw [show (4 : Int) = ((4 : Nat) : Int) from rfl,← Int.ofNat_tdiv,wrap_id (by omega) (by omega)]
  have hLd : x.length ≤ 4 * ((x.length + 3) / 4) := by omega
  have hLb : (x.length + 3) / 4 ≤ 1000000 := by omega
  generalize (x.length + 3) / 4 = L at *
  have m0 : (0 : Int) ≤ (L : Int) := by omega
  have m1 : (L : Int) ≤ 281474976710656 := by omega
  have m2 : (4 : Int) * (L : Int) ≤ 281474976710656 := by omega
  have mz := rows_zero L
  rw [dcells_zero] at mz
  have hlo' : lo ≤ h.length := hlo
  simp -implicitDefEqProofs only [go_sem,↓reduceIte,reduceCtorEq,Int.reduceLT,Int.reduceLE,Int.reduceToNat,Nat.reduceAdd,Nat.reduceMul,Nat.reduceLeDiff,Nat.reduceLT,Nat.reduceSub,Int.reduceNeg,Int.reduceEq,Int.reduceBEq,Int.reduceBNe,Nat.reduceEqDiff,ap_get0,ap_get,ap_set0,ap_set,ap_take,ap_sub,ap_le,List.append_assoc,Nat.add_assoc,Nat.add_lt_add_iff_left,Nat.lt_add_right_iff_pos,h1,hw3,hq3,m0,m1,m2,mz,Int.toNat_natCast]
  rw [Sat_bind]
  refine loop_up (I := fun i env h' => h' = h ++ [.cells true (dcells L (valB (x.drop (x.length - i))))] ∧ env = [.str x,.undef,.undef,.hs h.length 0 L 1,.undef,.undef,.undef,.undef,.undef,.undef,.undef,.undef,.undef,.undef,.int .i64 ((x.length : Nat) : Int),.int .i64 ((i : Nat) : Int),.undef,.undef,.undef,.undef,.undef,.undef,.undef,.undef,.undef,.undef,.undef,.undef,.undef,.undef,.undef,.undef,.undef,.undef,.undef,.undef,.undef,.undef,.undef,.undef]) x.length ?_ ?_ (Nat.zero_le _) ⟨by rw [Nat.sub_zero,List.drop_length]; rfl,by simp -implicitDefEqProofs only [go_sem,↓reduceIte,reduceCtorEq,Int.reduceLT,Int.reduceLE,Int.reduceToNat,Nat.reduceAdd,Nat.reduceMul,Nat.reduceLeDiff,Nat.reduceLT,Nat.reduceSub,Int.reduceNeg,Int.reduceEq,Int.reduceBEq,Int.reduceBNe,Nat.reduceEqDiff]⟩
  · rintro i env h' hi ⟨rfl,rfl⟩
    have hi' : (i : Int) < (x.length : Int) := by omega
    obtain ⟨c,hc⟩ : ∃ c,x[x.length - 1 - i]? = some c := ⟨_,List.getElem?_eq_getElem (by omega)⟩
    have hw := wrap_succ (i := i) (by omega)
    have w1 : IntKind.i64.wrap ((x.length : Int) - 1) = ((x.length - 1 : Nat) : Int) := by rw [wrap_id (by omega) (by omega)]; omega
    have w2 : IntKind.i64.wrap (((x.length - 1 : Nat) : Int) - (i : Int)) = ((x.length - 1 - i : Nat) : Int) := by rw [wrap_id (by omega) (by omega)]; omega
    have q1 : IntKind.i64.wrap ((i : Int).tdiv 4) = ((i / 4 : Nat) : Int) := by
      rw [show (4 : Int) = ((4 : Nat) : Int) from rfl,← Int.ofNat_tdiv,wrap_id (by omega) (by omega)]
    have q2 : (i : Int).tmod 4 = ((i % 4 : Nat) : Int) := by
      rw [show (4 : Int) = ((4 : Nat) : Int) from rfl,← Int.ofNat_tmod]
    have q3 : IntKind.i64.wrap (((i % 4 : Nat) : Int) * 8) = ((8 * (i % 4) : Nat) : Int) := by rw [wrap_id (by omega) (by omega)]; omega
    obtain ⟨j,r,hr,hij,ej,er⟩ : ∃ j r,r < 4 ∧ i = 4 * j + r ∧ i / 4 = j ∧ i % 4 = r := ⟨i / 4,i % 4,Nat.mod_lt _ (by decide),by omega,rfl,rfl⟩
    rw [ej] at q1
    rw [er] at q2 q3
    have hj : j < L := by omega
    have hv := drop_lt (x := x) (i := i) (by omega)
    have hn := drop_val hi hc
    have hcb := u8_lt c
    have hcu : IntKind.u32.wrap (c.toNat : Int) = c.toNat := u32_id (by omega)
    have hsh := shl32 (n := c.toNat) (k := 8 * r) (by omega) (byte_lt hcb hr)
    generalize valB (x.drop (x.length - i)) = M at *
    generalize valB (x.drop (x.length - (i + 1))) = M' at *
    rw [hij] at hv hn
    have hor := word_or (j := j) hv hcb hr
    rw [← hn] at hor
    have hds := dcells_set (L := L) (m := M) (m' := M') hj fun k hk => by
      rw [hn,dig_byte hv hcb hr,if_neg hk]
    simp only [vsplice,List.length_cons,List.length_nil,Nat.zero_add,List.append_assoc,List.cons_append,List.nil_append] at hds
    have htk : ∀ b : VBlk,(h ++ [b]).take (h.length + 1) = h ++ [b] := fun b => List.take_of_length_le (by simp)
    have hg := dcells_get (L := L) (m := M) hj
    have hl := dcells_len L M
    have hix1 : j + 1 ≤ L := by omega
    generalize dcells L M = cs at *
    generalize dcells L M' = cs' at *
    clear hv hn ej er
    simp -implicitDefEqProofs only [nat_words_b0,go_sem,↓reduceIte,reduceCtorEq,Int.reduceLT,Int.reduceLE,Int.reduceToNat,Nat.reduceAdd,Nat.reduceMul,Nat.reduceLeDiff,Nat.reduceLT,Nat.reduceSub,Int.reduceNeg,Int.reduceEq,Int.reduceBEq,Int.reduceBNe,Nat.reduceEqDiff,ap_get0,ap_get,ap_set0,ap_set,ap_take,ap_sub,ap_le,List.append_assoc,Nat.add_assoc,Nat.add_lt_add_iff_left,Nat.lt_add_right_iff_pos,hi',hw,hc,w1,w2,q1,q2,q3,hj,hcu,hsh,hor,hg,hl,hds,hix1,hlo',htk,Nat.mul_one,Nat.zero_add]
  · rintro env h' ⟨rfl,rfl⟩
    rw [Nat.sub_self,List.drop_zero]
    simp -implicitDefEqProofs only [nat_words_b0,go_sem,↓reduceIte,reduceCtorEq,Int.reduceLT,Int.reduceLE,Int.reduceToNat,Nat.reduceAdd,Nat.reduceMul,Nat.reduceLeDiff,Nat.reduceLT,Nat.reduceSub,Int.reduceNeg,Int.reduceEq,Int.reduceBEq,Int.reduceBNe,Nat.reduceEqDiff,ap_get0,ap_get,ap_set0,ap_set,ap_take,ap_sub,ap_le,List.append_assoc,Nat.add_assoc,Nat.add_lt_add_iff_left,Nat.lt_add_right_iff_pos,Int.lt_irrefl]
    exact hP1
end Vg.G3
