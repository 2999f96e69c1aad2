/-
  DERIVED. GIVEN WITH THE SEED: THE CARDS: each row of YtpclbojoknhnlaaDoorRows.lean that lists a variable, with what it lists TIED to the program's text (the seventh form; the later family's looks); each row that meets fmt, with fmt's text TOLD by the authors' own Lean function (tested against real Go, not proved from fmt's source: count such statements apart). THE CARD IS WHAT COUNTS. Prove the row's statement (the work); the ties are given (YtpclbojoknhnlaaDoorTie.lean); close each card by the builder's one call (the guide's Derived/Test/ToyasCard.lean, 'card_holds'). Laid BY PROGRAM, IN A SANDBOX (cutbox-door.mjs). By AI agents, Wed Nov 11 2026. No macro, syntax, notation, axiom, sorry.
-/
import Derived.Test.YtpclbojoknhnlaaDoorRows
import GoSem.ClaimSeven
namespace Go.Proofs.YtpclbojoknhnlaaDoor
namespace Rows

/-- THE TIED CARD OF 'gantkeep4.SeeNarrows'. -/
def seeNarrowsCard : Claim7 := { stood := { row := seeNarrowsRow, standIns := [], harness := (true, "61e981f646ec9a88b6c9e5d3a7d7c8d616d78c6aed957f2bf258743afb8a408a"), looks := false }, kinds := [], alts := [], laidByText := true, laidKinds := [.data], laidTests := true, laidLooks := .later }
def SeeNarrowsCardSaid : Prop := Claim7.holds Tryd.pinned (.plain (OpenSpec.ofChange seeNarrowsSpec)) seeNarrowsCard

/-- THE TIED CARD OF 'gantkeep4.SeeLooks'. -/
def seeLooksCard : Claim7 := { stood := { row := seeLooksRow, standIns := [], harness := (true, "61e981f646ec9a88b6c9e5d3a7d7c8d616d78c6aed957f2bf258743afb8a408a"), looks := false }, kinds := [], alts := [], laidByText := true, laidKinds := [.data], laidTests := true, laidLooks := .later }
def SeeLooksCardSaid : Prop := Claim7.holds Tryd.pinned (.plain (OpenSpec.ofChange seeLooksSpec)) seeLooksCard

/-- THE TIED CARD OF 'gantkeep4.TypesWide'. -/
def typesWideCard : Claim7 := { stood := { row := typesWideRow, standIns := [], harness := (true, "61e981f646ec9a88b6c9e5d3a7d7c8d616d78c6aed957f2bf258743afb8a408a"), looks := false }, kinds := [], alts := [], laidByText := true, laidKinds := [.data], laidTests := true, laidLooks := .later }
def TypesWideCardSaid : Prop := Claim7.holds Tryd.pinned (.plain (OpenSpec.ofChange typesWideSpec)) typesWideCard

/-- THE TIED CARD OF 'gantkeep4.SeePoint'. -/
def seePointCard : Claim7 := { stood := { row := seePointRow, standIns := [], harness := (true, "61e981f646ec9a88b6c9e5d3a7d7c8d616d78c6aed957f2bf258743afb8a408a"), looks := false }, kinds := [], alts := [], laidByText := true, laidKinds := [.data], laidTests := true, laidLooks := .later }
def SeePointCardSaid : Prop := Claim7.holds Tryd.pinned (.plain (OpenSpec.ofChange seePointSpec)) seePointCard

/-- THE TIED CARD OF 'gantkeep4.CarryBack'. -/
def carryBackCard : Claim7 := { stood := { row := carryBackRow, standIns := [], harness := (true, "61e981f646ec9a88b6c9e5d3a7d7c8d616d78c6aed957f2bf258743afb8a408a"), looks := false }, kinds := [], alts := [], laidByText := true, laidKinds := [.data], laidTests := true, laidLooks := .later }
def CarryBackCardSaid : Prop := Claim7.holds Tryd.pinned (.plain (OpenSpec.ofChange carryBackSpec)) carryBackCard

/-- THE TIED CARD OF 'gantkeep4.CarryWider'. -/
def carryWiderCard : Claim7 := { stood := { row := carryWiderRow, standIns := [], harness := (true, "61e981f646ec9a88b6c9e5d3a7d7c8d616d78c6aed957f2bf258743afb8a408a"), looks := false }, kinds := [], alts := [], laidByText := true, laidKinds := [.data], laidTests := true, laidLooks := .later }
def CarryWiderCardSaid : Prop := Claim7.holds Tryd.pinned (.plain (OpenSpec.ofChange carryWiderSpec)) carryWiderCard

/-- THE TIED CARD OF 'gantkeep4.TypesFit'. -/
def typesFitCard : Claim7 := { stood := { row := typesFitRow, standIns := [], harness := (true, "61e981f646ec9a88b6c9e5d3a7d7c8d616d78c6aed957f2bf258743afb8a408a"), looks := false }, kinds := [], alts := [], laidByText := true, laidKinds := [.data], laidTests := true, laidLooks := .later }
def TypesFitCardSaid : Prop := Claim7.holds Tryd.pinned (.plain (OpenSpec.ofChange typesFitSpec)) typesFitCard

/-- THE TIED CARD OF 'gantkeep4.CarryLooks'. -/
def carryLooksCard : Claim7 := { stood := { row := carryLooksRow, standIns := [], harness := (true, "61e981f646ec9a88b6c9e5d3a7d7c8d616d78c6aed957f2bf258743afb8a408a"), looks := false }, kinds := [], alts := [], laidByText := true, laidKinds := [.data], laidTests := true, laidLooks := .later }
def CarryLooksCardSaid : Prop := Claim7.holds Tryd.pinned (.plain (OpenSpec.ofChange carryLooksSpec)) carryLooksCard

/-- THE TIED CARD OF 'gantkeep4.CarryTrue'. -/
def carryTrueCard : Claim7 := { stood := { row := carryTrueRow, standIns := [], harness := (true, "61e981f646ec9a88b6c9e5d3a7d7c8d616d78c6aed957f2bf258743afb8a408a"), looks := false }, kinds := [], alts := [], laidByText := true, laidKinds := [.data], laidTests := true, laidLooks := .later }
def CarryTrueCardSaid : Prop := Claim7.holds Tryd.pinned (.plain (OpenSpec.ofChange carryTrueSpec)) carryTrueCard

/-- THE TIED CARD OF 'gantkeep4.ParseWeighs'. -/
def parseWeighsCard : Claim7 := { stood := { row := parseWeighsRow, standIns := [], harness := (true, "61e981f646ec9a88b6c9e5d3a7d7c8d616d78c6aed957f2bf258743afb8a408a"), looks := false }, kinds := [], alts := [], laidByText := true, laidKinds := [.data, .data, .data], laidTests := true, laidLooks := .later }
def ParseWeighsCardSaid : Prop := Claim7.holds Tryd.pinned (.plain (OpenSpec.ofChange parseWeighsSpec)) parseWeighsCard

/-- THE SECOND FORM's CARD OF 'gantkeep4.SeeNarrows'. -/
def seeNarrowsUptoCard : Claim7 := { stood := { row := seeNarrowsUptoRow, standIns := [], harness := (true, "61e981f646ec9a88b6c9e5d3a7d7c8d616d78c6aed957f2bf258743afb8a408a"), looks := false }, kinds := [], alts := [], laidByText := true, laidKinds := [.data], laidTests := true, laidLooks := .later }
def SeeNarrowsUptoCardSaid : Prop := Claim7.holds Tryd.pinned (.plain (OpenSpec.upto seeNarrowsSpec)) seeNarrowsUptoCard

/-- THE SECOND FORM's CARD OF 'gantkeep4.SeeLooks'. -/
def seeLooksUptoCard : Claim7 := { stood := { row := seeLooksUptoRow, standIns := [], harness := (true, "61e981f646ec9a88b6c9e5d3a7d7c8d616d78c6aed957f2bf258743afb8a408a"), looks := false }, kinds := [], alts := [], laidByText := true, laidKinds := [.data], laidTests := true, laidLooks := .later }
def SeeLooksUptoCardSaid : Prop := Claim7.holds Tryd.pinned (.plain (OpenSpec.upto seeLooksSpec)) seeLooksUptoCard

/-- THE SECOND FORM's CARD OF 'gantkeep4.TypesWide'. -/
def typesWideUptoCard : Claim7 := { stood := { row := typesWideUptoRow, standIns := [], harness := (true, "61e981f646ec9a88b6c9e5d3a7d7c8d616d78c6aed957f2bf258743afb8a408a"), looks := false }, kinds := [], alts := [], laidByText := true, laidKinds := [.data], laidTests := true, laidLooks := .later }
def TypesWideUptoCardSaid : Prop := Claim7.holds Tryd.pinned (.plain (OpenSpec.upto typesWideSpec)) typesWideUptoCard

/-- THE SECOND FORM's CARD OF 'gantkeep4.SeePoint'. -/
def seePointUptoCard : Claim7 := { stood := { row := seePointUptoRow, standIns := [], harness := (true, "61e981f646ec9a88b6c9e5d3a7d7c8d616d78c6aed957f2bf258743afb8a408a"), looks := false }, kinds := [], alts := [], laidByText := true, laidKinds := [.data], laidTests := true, laidLooks := .later }
def SeePointUptoCardSaid : Prop := Claim7.holds Tryd.pinned (.plain (OpenSpec.upto seePointSpec)) seePointUptoCard

/-- THE SECOND FORM's CARD OF 'gantkeep4.CarryBack'. -/
def carryBackUptoCard : Claim7 := { stood := { row := carryBackUptoRow, standIns := [], harness := (true, "61e981f646ec9a88b6c9e5d3a7d7c8d616d78c6aed957f2bf258743afb8a408a"), looks := false }, kinds := [], alts := [], laidByText := true, laidKinds := [.data], laidTests := true, laidLooks := .later }
def CarryBackUptoCardSaid : Prop := Claim7.holds Tryd.pinned (.plain (OpenSpec.upto carryBackSpec)) carryBackUptoCard

/-- THE SECOND FORM's CARD OF 'gantkeep4.CarryWider'. -/
def carryWiderUptoCard : Claim7 := { stood := { row := carryWiderUptoRow, standIns := [], harness := (true, "61e981f646ec9a88b6c9e5d3a7d7c8d616d78c6aed957f2bf258743afb8a408a"), looks := false }, kinds := [], alts := [], laidByText := true, laidKinds := [.data], laidTests := true, laidLooks := .later }
def CarryWiderUptoCardSaid : Prop := Claim7.holds Tryd.pinned (.plain (OpenSpec.upto carryWiderSpec)) carryWiderUptoCard

/-- THE SECOND FORM's CARD OF 'gantkeep4.TypesFit'. -/
def typesFitUptoCard : Claim7 := { stood := { row := typesFitUptoRow, standIns := [], harness := (true, "61e981f646ec9a88b6c9e5d3a7d7c8d616d78c6aed957f2bf258743afb8a408a"), looks := false }, kinds := [], alts := [], laidByText := true, laidKinds := [.data], laidTests := true, laidLooks := .later }
def TypesFitUptoCardSaid : Prop := Claim7.holds Tryd.pinned (.plain (OpenSpec.upto typesFitSpec)) typesFitUptoCard

/-- THE SECOND FORM's CARD OF 'gantkeep4.CarryLooks'. -/
def carryLooksUptoCard : Claim7 := { stood := { row := carryLooksUptoRow, standIns := [], harness := (true, "61e981f646ec9a88b6c9e5d3a7d7c8d616d78c6aed957f2bf258743afb8a408a"), looks := false }, kinds := [], alts := [], laidByText := true, laidKinds := [.data], laidTests := true, laidLooks := .later }
def CarryLooksUptoCardSaid : Prop := Claim7.holds Tryd.pinned (.plain (OpenSpec.upto carryLooksSpec)) carryLooksUptoCard

/-- THE SECOND FORM's CARD OF 'gantkeep4.CarryTrue'. -/
def carryTrueUptoCard : Claim7 := { stood := { row := carryTrueUptoRow, standIns := [], harness := (true, "61e981f646ec9a88b6c9e5d3a7d7c8d616d78c6aed957f2bf258743afb8a408a"), looks := false }, kinds := [], alts := [], laidByText := true, laidKinds := [.data], laidTests := true, laidLooks := .later }
def CarryTrueUptoCardSaid : Prop := Claim7.holds Tryd.pinned (.plain (OpenSpec.upto carryTrueSpec)) carryTrueUptoCard

/-- THE SECOND FORM's CARD OF 'gantkeep4.ParseWeighs'. -/
def parseWeighsUptoCard : Claim7 := { stood := { row := parseWeighsUptoRow, standIns := [], harness := (true, "61e981f646ec9a88b6c9e5d3a7d7c8d616d78c6aed957f2bf258743afb8a408a"), looks := false }, kinds := [], alts := [], laidByText := true, laidKinds := [.data, .data, .data], laidTests := true, laidLooks := .later }
def ParseWeighsUptoCardSaid : Prop := Claim7.holds Tryd.pinned (.plain (OpenSpec.upto parseWeighsSpec)) parseWeighsUptoCard
end Rows
end Go.Proofs.YtpclbojoknhnlaaDoor
