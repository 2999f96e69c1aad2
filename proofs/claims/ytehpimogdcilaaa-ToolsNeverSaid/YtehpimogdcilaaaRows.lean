/-
  No cell of these rows narrows 'for every input' (looked for: loops, veiled, ifaces, maps, wideKeys, modest, calm, conditions, laid).
  DERIVED. THE GIVEN ROWS OF THIS SEAT. 5 by the template 'for every input the law returns true; each argument reads behind the call as it read before'; 0 by the template 'total and deterministic' (their statements: YtehpimogdcilaaaTotals.lean).
  GIVEN WITH THE SEED: the statements are not yours to turn. If you find one false, say at which input.
  Laid BY PROGRAM, IN A SANDBOX (cutbox-rows.mjs): the forced cells as the released guide's own fill.sh prints them over the translation 673a1750b565edb1… (all of the seat's roots in one cut). By AI agents, Wed Nov 11 2026. No macro, syntax, notation, axiom, sorry.
-/
import Derived.Test.YtehpimogdcilaaaChecked
import GoSem.Claim
import GoSem.ClaimJoined
import GoSem.ClaimMapViews
import Derived.JoinedTies
import Derived.KernelRfl
namespace Go.Proofs.Ytehpimogdcilaaa
/- THE CELL 'sum', in the pinned program and in every row, IS THE sha256 OF THE DUMP (.gsa) THAT YtehpimogdcilaaaProg.lean LOADS. Nothing in Lean hashes anything: it is a label: what it is worth is what the hold of that sum in a sandbox is worth. -/
noncomputable def Try.pinned : Pinned := { name := "ytehpimogdcilaaa", sum := "673a1750b565edb17b81efa03c3a6f0cc0ec622f147dcb8ddda66a7cae6ea306", checked := Try.checked }
namespace Rows
def none {H : Type} : Left H := { results := [], args := [] }

/-- 'gantkeep4.OrderTight': WHATEVER THE INPUT: true; the input reads as it did. -/
def orderTightSpec : ChangeSpec := { name := "orderTight", fn := fun _ => fun
  | [d1, d2] => { results := [.lit (.bool true)], args := [d1, d2] }
  | _ => none }
def orderTightRow : OpenClaim := { program := "ytehpimogdcilaaa", sum := "673a1750b565edb17b81efa03c3a6f0cc0ec622f147dcb8ddda66a7cae6ea306", func := "gantry/gantkeep4.OrderTight", spec := "orderTight", apart := false }
def OrderTightSaid : Prop := orderTightRow.holds Try.pinned (OpenSpec.ofChange orderTightSpec)

/-- ITS FALSE NEIGHBOUR: 'it returns false'. Refute it at one input. -/
def orderTightWrong : ChangeSpec := { name := "orderTight", fn := fun _ => fun
  | [d1, d2] => { results := [.lit (.bool false)], args := [d1, d2] }
  | _ => none }
def OrderTightWrongFalsely : Prop := orderTightRow.holds Try.pinned (OpenSpec.ofChange orderTightWrong)

/-- 'gantkeep4.OrderChain': WHATEVER THE INPUT: true; the input reads as it did. -/
def orderChainSpec : ChangeSpec := { name := "orderChain", fn := fun _ => fun
  | [d1, d2] => { results := [.lit (.bool true)], args := [d1, d2] }
  | _ => none }
def orderChainRow : OpenClaim := { program := "ytehpimogdcilaaa", sum := "673a1750b565edb17b81efa03c3a6f0cc0ec622f147dcb8ddda66a7cae6ea306", func := "gantry/gantkeep4.OrderChain", spec := "orderChain", apart := false }
def OrderChainSaid : Prop := orderChainRow.holds Try.pinned (OpenSpec.ofChange orderChainSpec)

/-- ITS FALSE NEIGHBOUR: 'it returns false'. Refute it at one input. -/
def orderChainWrong : ChangeSpec := { name := "orderChain", fn := fun _ => fun
  | [d1, d2] => { results := [.lit (.bool false)], args := [d1, d2] }
  | _ => none }
def OrderChainWrongFalsely : Prop := orderChainRow.holds Try.pinned (OpenSpec.ofChange orderChainWrong)

/-- 'gantkeep4.ToolsFirstFree': WHATEVER THE INPUT: true; the input reads as it did. -/
def toolsFirstFreeSpec : ChangeSpec := { name := "toolsFirstFree", fn := fun _ => fun
  | [d1, d2, d3, d4] => { results := [.lit (.bool true)], args := [d1, d2, d3, d4] }
  | _ => none }
def toolsFirstFreeRow : OpenClaim := { program := "ytehpimogdcilaaa", sum := "673a1750b565edb17b81efa03c3a6f0cc0ec622f147dcb8ddda66a7cae6ea306", func := "gantry/gantkeep4.ToolsFirstFree", spec := "toolsFirstFree", apart := false }
def ToolsFirstFreeSaid : Prop := toolsFirstFreeRow.holds Try.pinned (OpenSpec.ofChange toolsFirstFreeSpec)

/-- ITS FALSE NEIGHBOUR: 'it returns false'. Refute it at one input. -/
def toolsFirstFreeWrong : ChangeSpec := { name := "toolsFirstFree", fn := fun _ => fun
  | [d1, d2, d3, d4] => { results := [.lit (.bool false)], args := [d1, d2, d3, d4] }
  | _ => none }
def ToolsFirstFreeWrongFalsely : Prop := toolsFirstFreeRow.holds Try.pinned (OpenSpec.ofChange toolsFirstFreeWrong)

/-- 'gantkeep4.ToolsEarly': WHATEVER THE INPUT: true; the input reads as it did. -/
def toolsEarlySpec : ChangeSpec := { name := "toolsEarly", fn := fun _ => fun
  | [d] => { results := [.lit (.bool true)], args := [d] }
  | _ => none }
def toolsEarlyRow : OpenClaim := { program := "ytehpimogdcilaaa", sum := "673a1750b565edb17b81efa03c3a6f0cc0ec622f147dcb8ddda66a7cae6ea306", func := "gantry/gantkeep4.ToolsEarly", spec := "toolsEarly", apart := false }
def ToolsEarlySaid : Prop := toolsEarlyRow.holds Try.pinned (OpenSpec.ofChange toolsEarlySpec)

/-- ITS FALSE NEIGHBOUR: 'it returns false'. Refute it at one input. -/
def toolsEarlyWrong : ChangeSpec := { name := "toolsEarly", fn := fun _ => fun
  | [d] => { results := [.lit (.bool false)], args := [d] }
  | _ => none }
def ToolsEarlyWrongFalsely : Prop := toolsEarlyRow.holds Try.pinned (OpenSpec.ofChange toolsEarlyWrong)

/-- 'gantkeep4.ToolsNever': WHATEVER THE INPUT: true; the input reads as it did. -/
def toolsNeverSpec : ChangeSpec := { name := "toolsNever", fn := fun _ => fun
  | [d1, d2, d3] => { results := [.lit (.bool true)], args := [d1, d2, d3] }
  | _ => none }
def toolsNeverRow : OpenClaim := { program := "ytehpimogdcilaaa", sum := "673a1750b565edb17b81efa03c3a6f0cc0ec622f147dcb8ddda66a7cae6ea306", func := "gantry/gantkeep4.ToolsNever", spec := "toolsNever", apart := false }
def ToolsNeverSaid : Prop := toolsNeverRow.holds Try.pinned (OpenSpec.ofChange toolsNeverSpec)

/-- ITS FALSE NEIGHBOUR: 'it returns false'. Refute it at one input. -/
def toolsNeverWrong : ChangeSpec := { name := "toolsNever", fn := fun _ => fun
  | [d1, d2, d3] => { results := [.lit (.bool false)], args := [d1, d2, d3] }
  | _ => none }
def ToolsNeverWrongFalsely : Prop := toolsNeverRow.holds Try.pinned (OpenSpec.ofChange toolsNeverWrong)

/- THE SECOND FORM. 'bulk': how many values and letters a reading holds, each counted each time it is reached (what is shared counts as often as it is met; a slice's spare places count too). A statement '..UptoSaid' is the law's where the arguments, and the package variables that the reading takes, are together of bulk at most 1048576: NARROWER than '..Said'. Prove '..Said' where nothing that the law and all that it calls make is longer than what came in: it says more and counts as full. Else prove '..UptoSaid'. A law counts once. -/
mutual
def uptoBulk {H : Type} : DataW H → Nat
  | .lit (.string bytes) => bytes.length + 1
  | .lit _ => 1
  | .nil => 1
  | .ptr d => uptoBulk d + 1
  | .slice elems spare => uptoBulkAll elems + uptoBulkAll spare + 1
  | .agg parts => uptoBulkAll parts + 1
  | .iface _ d => uptoBulk d + 1
  | .map entries => uptoBulkEntries entries + 1
  | .held _ => 1
def uptoBulkAll {H : Type} : List (DataW H) → Nat
  | [] => 0
  | d :: r => uptoBulk d + uptoBulkAll r
def uptoBulkEntries {H : Type} : List (Lit × DataW H) → Nat
  | [] => 0
  | x :: r => uptoBulkEntry x + uptoBulkEntries r
def uptoBulkEntry {H : Type} : Lit × DataW H → Nat
  | (.string bytes, d) => bytes.length + uptoBulk d + 1
  | (_, d) => uptoBulk d + 1
 end
def uptoSmall : (H : Type) → List (DataW H) → Bool := fun _ ds => decide (uptoBulkAll ds ≤ 1048576)
def OpenSpec.upto (s : _root_.Go.ChangeSpec) : _root_.Go.OpenSpec := { _root_.Go.OpenSpec.ofChange s with cond := some uptoSmall }

/-- 'gantkeep4.OrderTight', WHERE WHAT IT READS IS OF BULK AT MOST 1048576: true; the input reads as it did. -/
def orderTightUptoRow : OpenClaim := { program := "ytehpimogdcilaaa", sum := "673a1750b565edb17b81efa03c3a6f0cc0ec622f147dcb8ddda66a7cae6ea306", func := "gantry/gantkeep4.OrderTight", spec := "orderTight", apart := false, narrowed := true }
def OrderTightUptoSaid : Prop := orderTightUptoRow.holds Try.pinned (OpenSpec.upto orderTightSpec)

/-- 'gantkeep4.OrderChain', WHERE WHAT IT READS IS OF BULK AT MOST 1048576: true; the input reads as it did. -/
def orderChainUptoRow : OpenClaim := { program := "ytehpimogdcilaaa", sum := "673a1750b565edb17b81efa03c3a6f0cc0ec622f147dcb8ddda66a7cae6ea306", func := "gantry/gantkeep4.OrderChain", spec := "orderChain", apart := false, narrowed := true }
def OrderChainUptoSaid : Prop := orderChainUptoRow.holds Try.pinned (OpenSpec.upto orderChainSpec)

/-- 'gantkeep4.ToolsFirstFree', WHERE WHAT IT READS IS OF BULK AT MOST 1048576: true; the input reads as it did. -/
def toolsFirstFreeUptoRow : OpenClaim := { program := "ytehpimogdcilaaa", sum := "673a1750b565edb17b81efa03c3a6f0cc0ec622f147dcb8ddda66a7cae6ea306", func := "gantry/gantkeep4.ToolsFirstFree", spec := "toolsFirstFree", apart := false, narrowed := true }
def ToolsFirstFreeUptoSaid : Prop := toolsFirstFreeUptoRow.holds Try.pinned (OpenSpec.upto toolsFirstFreeSpec)

/-- 'gantkeep4.ToolsEarly', WHERE WHAT IT READS IS OF BULK AT MOST 1048576: true; the input reads as it did. -/
def toolsEarlyUptoRow : OpenClaim := { program := "ytehpimogdcilaaa", sum := "673a1750b565edb17b81efa03c3a6f0cc0ec622f147dcb8ddda66a7cae6ea306", func := "gantry/gantkeep4.ToolsEarly", spec := "toolsEarly", apart := false, narrowed := true }
def ToolsEarlyUptoSaid : Prop := toolsEarlyUptoRow.holds Try.pinned (OpenSpec.upto toolsEarlySpec)

/-- 'gantkeep4.ToolsNever', WHERE WHAT IT READS IS OF BULK AT MOST 1048576: true; the input reads as it did. -/
def toolsNeverUptoRow : OpenClaim := { program := "ytehpimogdcilaaa", sum := "673a1750b565edb17b81efa03c3a6f0cc0ec622f147dcb8ddda66a7cae6ea306", func := "gantry/gantkeep4.ToolsNever", spec := "toolsNever", apart := false, narrowed := true }
def ToolsNeverUptoSaid : Prop := toolsNeverUptoRow.holds Try.pinned (OpenSpec.upto toolsNeverSpec)

end Rows
end Go.Proofs.Ytehpimogdcilaaa
