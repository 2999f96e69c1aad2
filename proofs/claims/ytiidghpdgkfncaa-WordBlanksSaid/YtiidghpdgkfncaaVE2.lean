/- Two functions of Go's library: the first place of a byte,the number of its places. -/
import Derived.Test.YtiidghpdgkfncaaProg
import Derived.Lib.Strings
import Derived.Lib.Slices
import Derived.Lib.Walk
import Derived.Lib.Bytealg
import Derived.Test.YtiidghpdgkfncaaVJ2
namespace Vg.G2
open Go Lg Go.RowKit Go.Proofs
set_option maxHeartbeats 1000000 in
set_option maxRecDepth 100000 in
theorem stringslite_IndexByte_one (s : ByteArray) (c : Int) (w : World) :
    Calls Try.prog 39 #[.string s,.int .u8 c] w fun e w' => e = .returned (.int .i64 (Lib.indexByte s.data.toList c.toNat.toUInt8)) ∧ w' = w := by
  go_enter Try.func39,Try.ntmps39
  go_wp2
  rw [run_callFunc_extern Try.func44 (by kernel_rfl) (by kernel_rfl) (by kernel_rfl) (e := Extern.BytealgIndexByte.indexByte) (by kernel_rfl),Lib.run_indexByteString]
  simp only [Result.andThen]
  rw [Oper.upon_value]
  go_wp2
  go_ret
  exact ⟨rfl,rfl⟩
set_option maxHeartbeats 2000000 in
set_option maxRecDepth 100000 in
theorem stringslite_Index_one (s : ByteArray) (c : UInt8) (w : World) :
    Calls Try.prog 36 #[.string s,.string ⟨#[c]⟩] w fun e w' => e = .returned (.int .i64 (Lib.indexByte s.data.toList c)) ∧ w' = w := by
  go_enter Try.func36,Try.ntmps36
  go_wp2_with (go_at_call 39; refine (stringslite_IndexByte_one _ _ _).mono ?_; rintro e w' ⟨rfl,rfl⟩)
  · have h : ([c] == s.toList) = true := by assumption
    go_ret
    refine ⟨?_,rfl⟩
    have e : s.data.toList = [c] := by rw [← Lib.toList_data]; exact (beq_iff_eq.1 h).symm
    rw [e]
    simp [Lib.indexByte]
  · go_ret
    exact ⟨rfl,rfl⟩
set_option maxHeartbeats 1000000 in
set_option maxRecDepth 100000 in
theorem strings_Count_one (s : ByteArray) (c : UInt8) (w : World) :
    Calls Try.prog 17 #[.string s,.string ⟨#[c]⟩] w fun e w' => e = .returned (.int .i64 (Lib.countByte s.data.toList c)) ∧ w' = w := by
  go_enter Try.func17,Try.ntmps17
  go_wp2
  rw [run_callFunc_extern Try.func30 (by kernel_rfl) (by kernel_rfl) (by kernel_rfl) (e := Extern.BytealgCount.count) (by kernel_rfl),Lib.run_countString]
  simp only [Result.andThen]
  rw [Oper.upon_value]
  go_wp2
  go_ret
  exact ⟨rfl,rfl⟩
theorem stringslite_Index_ext : ExtOK false Try.prog 36 (ext2 .index1) := index1_ok ⟨_,Try.func36,by kernel_rfl,by decide⟩ stringslite_Index_one
theorem strings_Count_ext : ExtOK false Try.prog 17 (ext2 .count1) := count1_ok ⟨_,Try.func17,by kernel_rfl,by decide⟩ strings_Count_one
theorem strings_Join_ext : ExtOK false Try.prog 21 (ext2 .join) := join_ok ⟨_,Try.func21,by kernel_rfl,by decide⟩ join_one join_none
end Vg.G2
