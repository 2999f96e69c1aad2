/- internal/bytealg.CompareString over this program. -/
import Derived.Test.YtpclbojoknhnlaaDoorProg
import Derived.Lib.Strings
import Derived.Lib.Slices
import Derived.Lib.Walk
import Derived.Lib.Bytealg
import Derived.Test.YtpclbojoknhnlaaDoorVLgExt
namespace Vg.G3
open Go Lg Go.RowKit Go.Proofs
set_option maxHeartbeats 1000000 in
set_option maxRecDepth 100000 in
theorem CompareString_one (a b : ByteArray) (w : World) :
    Calls Tryd.prog 153 #[.string a, .string b] w fun e w' => e = .returned (.int .i64 (Lib.compareBytes a.data.toList b.data.toList)) ∧ w' = w := by
  go_enter Tryd.func153, Tryd.ntmps153
  go_wp2
  rw [run_callFunc_extern Tryd.func171 (by kernel_rfl) (by kernel_rfl) (by kernel_rfl) (e := Extern.BytealgCompare.compare) (by kernel_rfl), Lib.run_compareString]
  simp only [Result.andThen]
  rw [Oper.upon_value]
  go_wp2
  go_ret
  exact ⟨rfl, rfl⟩
theorem CompareString_ext {m : Bool} : ExtOK m Tryd.prog 153 (ext2 .cmp) := cmp_ok ⟨_, Tryd.func153, rfl, by decide⟩ CompareString_one
end Vg.G3
