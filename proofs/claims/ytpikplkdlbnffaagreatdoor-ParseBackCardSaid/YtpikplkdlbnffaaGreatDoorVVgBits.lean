/- Shifts,masks and conversions of whole numbers without a sign. -/
import Derived.Test.YtpikplkdlbnffaaGreatDoorVVgEv
import Derived.Laws.BitsLemmas
import Derived.Laws.Bits64
namespace Vg
open Go Lg
theorem binE_shl (k k' : IntKind) (a b : Int) : binE .shl (.int k a) (.int k' b) = if 0 ≤ b then some (.int k (k.wrap (a * 2 ^ (min b.toNat k.bits)))) else none := rfl
theorem binE_shr (k k' : IntKind) (a b : Int) : binE .shr (.int k a) (.int k' b) = if 0 ≤ b then some (.int k (a.fdiv (2 ^ (min b.toNat k.bits)))) else none := rfl
theorem binE_or (k : IntKind) (a b : Int) : binE .or (.int k a) (.int k b) = some (wrapB k (BitVec.ofInt k.bits a ||| BitVec.ofInt k.bits b)) := by simp only [binE,if_true]
theorem binE_sadd (a b : List UInt8) : binE .add (.str a) (.str b) = if a.length + b.length ≤ 4611686018427387904 then some (.str (a ++ b)) else none := rfl
theorem u64_id {n : Nat} (h : n < 18446744073709551616) : IntKind.u64.wrap (n : Int) = n := by rw [IntKind.wrap_u64]; omega
theorem u32_id {n : Nat} (h : n < 4294967296) : IntKind.u32.wrap (n : Int) = n := by rw [IntKind.wrap_u32]; omega
theorem u8_id {n : Nat} (h : n < 256) : IntKind.u8.wrap (n : Int) = n := by rw [IntKind.wrap_u8]; omega
theorem u8_mod (n : Nat) : IntKind.u8.wrap (n : Int) = ((n % 256 : Nat) : Int) := by rw [IntKind.wrap_u8]; omega
/-- Shifted left. -/
theorem shl64 {n k : Nat} (hk : k ≤ 64) (h : n * 2 ^ k < 18446744073709551616) : binE .shl (.int .u64 (n : Int)) (.int .i64 (k : Int)) = some (.int .u64 ((n * 2 ^ k : Nat) : Int)) := by
  rw [binE_shl,if_pos (Int.natCast_nonneg k),Int.toNat_natCast]
  have e : min k IntKind.u64.bits = k := Nat.min_eq_left hk
  rw [e]
  have : (n : Int) * 2 ^ k = ((n * 2 ^ k : Nat) : Int) := by rw [Int.natCast_mul,Int.natCast_pow]; rfl
  rw [this,u64_id h]
theorem shl32 {n k : Nat} (hk : k ≤ 32) (h : n * 2 ^ k < 4294967296) : binE .shl (.int .u32 (n : Int)) (.int .i64 (k : Int)) = some (.int .u32 ((n * 2 ^ k : Nat) : Int)) := by
  rw [binE_shl,if_pos (Int.natCast_nonneg k),Int.toNat_natCast]
  have e : min k IntKind.u32.bits = k := Nat.min_eq_left hk
  rw [e]
  have : (n : Int) * 2 ^ k = ((n * 2 ^ k : Nat) : Int) := by rw [Int.natCast_mul,Int.natCast_pow]; rfl
  rw [this,u32_id h]
theorem fdiv_pow (n k : Nat) : (n : Int).fdiv (2 ^ k) = ((n / 2 ^ k : Nat) : Int) := by
  have : (2 : Int) ^ k = ((2 ^ k : Nat) : Int) := by rw [Int.natCast_pow]; rfl
  rw [this,Int.fdiv_eq_ediv_of_nonneg _ (Int.natCast_nonneg _)]
  rfl
theorem shr64 {n k : Nat} (hk : k ≤ 64) : binE .shr (.int .u64 (n : Int)) (.int .i64 (k : Int)) = some (.int .u64 ((n / 2 ^ k : Nat) : Int)) := by
  rw [binE_shr,if_pos (Int.natCast_nonneg k),Int.toNat_natCast]
  have e : min k IntKind.u64.bits = k := Nat.min_eq_left hk
  rw [e,fdiv_pow]
theorem or64 {a b : Nat} (ha : a < 18446744073709551616) (hb : b < 18446744073709551616) : binE .or (.int .u64 (a : Int)) (.int .u64 (b : Int)) = some (.int .u64 ((a ||| b : Nat) : Int)) := by
  rw [binE_or]
  have h : (BitVec.ofInt IntKind.u64.bits (a : Int) ||| BitVec.ofInt IntKind.u64.bits (b : Int)).toNat = a ||| b := by
    rw [BitVec.toNat_or,BitVec.ofInt_natCast,BitVec.ofInt_natCast,BitVec.toNat_ofNat,BitVec.toNat_ofNat,Nat.mod_eq_of_lt (show a < 2 ^ IntKind.u64.bits from ha),Nat.mod_eq_of_lt (show b < 2 ^ IntKind.u64.bits from hb)]
  unfold wrapB
  rw [h,u64_id (Nat.or_lt_two_pow (n := 64) ha hb)]
theorem or32 {a b : Nat} (ha : a < 4294967296) (hb : b < 4294967296) : binE .or (.int .u32 (a : Int)) (.int .u32 (b : Int)) = some (.int .u32 ((a ||| b : Nat) : Int)) := by
  rw [binE_or]
  have h : (BitVec.ofInt IntKind.u32.bits (a : Int) ||| BitVec.ofInt IntKind.u32.bits (b : Int)).toNat = a ||| b := by
    rw [BitVec.toNat_or,BitVec.ofInt_natCast,BitVec.ofInt_natCast,BitVec.toNat_ofNat,BitVec.toNat_ofNat,Nat.mod_eq_of_lt (show a < 2 ^ IntKind.u32.bits from ha),Nat.mod_eq_of_lt (show b < 2 ^ IntKind.u32.bits from hb)]
  unfold wrapB
  rw [h,u32_id (Nat.or_lt_two_pow (n := 32) ha hb)]
/-- Bits that do not meet. -/
theorem or_add {a b k : Nat} (hb : b < 2 ^ k) : (a * 2 ^ k ||| b) = a * 2 ^ k + b := by
  rw [Nat.mul_comm]; exact (Nat.two_pow_add_eq_or_of_lt hb a).symm
end Vg
