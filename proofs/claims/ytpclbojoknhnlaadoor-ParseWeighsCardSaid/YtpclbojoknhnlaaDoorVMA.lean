import Derived.Test.YtpclbojoknhnlaaDoorVM8
namespace Vg.G3
open Go Lg Vg.Nm
set_option linter.unusedSimpArgs false
set_option linter.unusedVariables false
set_option maxRecDepth 10000
set_option maxHeartbeats 8000000
attribute [local congr] bind_congr1
-- nothing

end Vg.G3
namespace Vg.G3
open Go Lg Vg.Nm
set_option linter.unusedSimpArgs false
set_option linter.unusedVariables false
set_option maxRecDepth 10000
set_option maxHeartbeats 8000000
attribute [local congr] bind_congr1
-- nothing

/-- Names a part. -/
def Leaf.part : Leaf → Bool
  | .put .. => true
  | .hold .. => true
  | .see _ => true
  | _ => false
theorem nm_x : NM [120] := ⟨by decide, by decide, by decide, by decide⟩
theorem Check_one {a p s : Nat} {l : Leaf} (g : l.ok a p s) (lo : Nat) (h : VHeap) : callVL vp lo n_parse_Check [.agg [.str [120], .list .s [l.row]]] h = some (.int .i64 0, h) := by
  have := Check_spec (a := a) (p := p) (s := s) nm_x (L := [.leaf l]) (by simp) (fun x hx => by
    simp only [List.mem_singleton] at hx
    subst hx
    simpa only [St.ok] using g) lo h
  simp only [List.map_cons, List.map_nil, St.row, St.wt, List.sum_cons, List.sum_nil] at this
  exact this
end Vg.G3
