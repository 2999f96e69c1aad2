import Derived.Test.YtpikplkdlbnffaaGreatDoorVN3
import Derived.Test.YtpikplkdlbnffaaGreatDoorVVgRows
import Derived.Test.YtpikplkdlbnffaaGreatDoorVVgBits
/- Rational numbers as rows of values: sign,numerator,denominator in lowest terms. -/
namespace Vg.Nm
def rv (q : Rat) : List VV := [.bool (decide (q.num < 0)),.str (encB q.num.natAbs),.str (encB q.den)]
/-- Bounds of a number. -/
structure BQ (m n : Nat) (q : Rat) : Prop where
  num : q.num.natAbs ≤ m
  den : q.den ≤ n
theorem BQ.of_eq {q : Rat} {k : Int} {D m : Nat} (hD : D ≠ 0) (h : q = mkRat k D) (hk : k.natAbs ≤ m) : BQ m D q := by
  subst h
  refine ⟨?_,?_⟩
  · rw [Rat.num_mkRat,if_neg hD]
    exact Nat.le_trans (Int.natAbs_ediv_le_natAbs _ _) hk
  · rw [Rat.den_mkRat,if_neg hD]; exact Nat.div_le_self _ _
theorem BQ.mono {q : Rat} {m n m' n' : Nat} (h : BQ m n q) (h1 : m ≤ m') (h2 : n ≤ n') : BQ m' n' q := ⟨Nat.le_trans h.num h1,Nat.le_trans h.den h2⟩
end Vg.Nm
/- Digits in base 2^32 as cells. -/
namespace Vg.Nm
open Go Lg
def dcells (L m : Nat) : List VV := (digs L m).map fun (x : Nat) => VV.int .u32 (x : Int)
theorem dcells_len (L m : Nat) : (dcells L m).length = L := by unfold dcells; rw [List.length_map,digs_len]
theorem dcells_get {L m j : Nat} (h : j < L) : (dcells L m)[j]? = some (.int .u32 (dig m j : Nat)) := by
  unfold dcells; rw [List.getElem?_map,digs_get h]; rfl
theorem dig_zero (j : Nat) : dig 0 j = 0 := by unfold dig; simp
theorem dcells_ext {L m : Nat} {cs : List VV} (hl : cs.length = L) (h : ∀ j,j < L → cs[j]? = some (.int .u32 (dig m j : Nat))) : cs = dcells L m := by
  apply List.ext_getElem?
  intro j
  by_cases hj : j < L
  · rw [h j hj,dcells_get hj]
  · rw [List.getElem?_eq_none (by omega),List.getElem?_eq_none (by rw [dcells_len]; omega)]
theorem rows_zero : ∀ L,(ofLVs (rows [.int .u32 0] L)).map VV.ow = List.replicate L (VV.int .u32 0)
  | 0 => rfl
  | L + 1 => by
    rw [List.replicate_succ,← rows_zero L]; rfl
theorem dcells_zero (L : Nat) : List.replicate L (VV.int .u32 0) = dcells L 0 := by
  refine dcells_ext List.length_replicate fun j hj => ?_
  rw [List.getElem?_replicate,if_pos hj,dig_zero]; rfl
theorem splice1 {cs : List VV} {i : Nat} (h : i < cs.length) (v : VV) : vsplice cs i [v] = cs.set i v := by
  unfold vsplice
  rw [List.set_eq_take_append_cons_drop,if_pos h,List.append_assoc]; rfl
theorem dcells_set {L m m' j : Nat} (hj : j < L) (h : ∀ k,k ≠ j → dig m' k = dig m k) : vsplice (dcells L m) j [.int .u32 (dig m' j : Nat)] = dcells L m' := by
  rw [splice1 (by rw [dcells_len]; exact hj)]
  refine dcells_ext (by rw [List.length_set,dcells_len]) fun k hk => ?_
  rw [List.getElem?_set]
  by_cases e : j = k
  · subst e; rw [if_pos rfl,dcells_len,if_pos hj]
  · rw [if_neg e,dcells_get hk,h k (fun h => e h.symm)]
theorem dig_small {m j r : Nat} (hm : m < 256 ^ (4 * j + r)) : dig m j < 256 ^ r := by
  rw [Nat.pow_add,pow256] at hm
  exact Nat.lt_of_le_of_lt (Nat.mod_le _ _) (Nat.div_lt_of_lt_mul hm)
theorem pow8 (r : Nat) : 256 ^ r = 2 ^ (8 * r) := by rw [Nat.pow_mul]
theorem byte_lt {c r : Nat} (hc : c < 256) (hr : r < 4) : c * 2 ^ (8 * r) < 4294967296 := by
  have h : r = 0 ∨ r = 1 ∨ r = 2 ∨ r = 3 := by omega
  rcases h with rfl | rfl | rfl | rfl <;> simp only [Nat.reducePow,Nat.reduceMul] <;> omega
theorem word_or {m c j r : Nat} (hm : m < 256 ^ (4 * j + r)) (hc : c < 256) (hr : r < 4) :
    binE .or (.int .u32 ((dig m j : Nat) : Int)) (.int .u32 ((c * 2 ^ (8 * r) : Nat) : Int)) = some (.int .u32 ((dig (m + c * 256 ^ (4 * j + r)) j : Nat) : Int)) := by
  have h1 := dig_lt m j
  rw [B32_eq] at h1
  rw [or32 h1 (byte_lt hc hr),dig_byte hm hc hr,if_pos rfl,Nat.or_comm,or_add (by rw [← pow8]; exact dig_small hm),pow8]
  congr 3; omega
/-- The last bytes of a string. -/
theorem drop_val {x : List UInt8} {i : Nat} {c : UInt8} (hi : i < x.length) (hc : x[x.length - 1 - i]? = some c) :
    valB (x.drop (x.length - (i + 1))) = valB (x.drop (x.length - i)) + c.toNat * 256 ^ i := by
  have e : x.drop (x.length - (i + 1)) = c :: x.drop (x.length - i) := by
    rw [List.drop_eq_getElem?_toList_append,show x.length - (i + 1) = x.length - 1 - i by omega,hc,show x.length - 1 - i + 1 = x.length - i by omega]; rfl
  rw [e,valB,List.length_drop,show x.length - (x.length - i) = i by omega]; omega
theorem drop_lt {x : List UInt8} {i : Nat} (hi : i ≤ x.length) : valB (x.drop (x.length - i)) < 256 ^ i := by
  have := valB_lt (x.drop (x.length - i))
  rwa [List.length_drop,show x.length - (x.length - i) = i by omega] at this
end Vg.Nm
