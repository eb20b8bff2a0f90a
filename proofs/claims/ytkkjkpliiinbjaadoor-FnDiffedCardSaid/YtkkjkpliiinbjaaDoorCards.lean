/-
  DERIVED. GIVEN WITH THE SEED: THE CARDS: each row of YtkkjkpliiinbjaaDoorRows.lean that lists a variable, with what it lists TIED to the program's text (the seventh form; the later family's looks); each row that meets fmt, with fmt's text TOLD by the authors' own Lean function (tested against real Go, not proved from fmt's source: count such statements apart). THE CARD IS WHAT COUNTS. Prove the row's statement (the work); the ties are given (YtkkjkpliiinbjaaDoorTie.lean); close each card by the builder's one call (the guide's Derived/Test/ToyasCard.lean, 'card_holds'). Laid BY PROGRAM, IN A SANDBOX (cutbox-door.mjs). By AI agents, Wed Nov 11 2026. No macro, syntax, notation, axiom, sorry.
-/
import Derived.Test.YtkkjkpliiinbjaaDoorRows
import GoSem.ClaimSeven
namespace Go.Proofs.YtkkjkpliiinbjaaDoor
namespace Rows

/-- THE TIED CARD OF 'laws.FnExactMergeTexts'. -/
def fnExactMergeTextsCard : Claim7 := { stood := { row := fnExactMergeTextsRow, standIns := [], harness := (true, "577be8788ad72c3ea5c8fdbc21aa75705c9752065a91474da3bf7ea0a6750bcf"), looks := false }, kinds := [], alts := [], laidByText := true, laidKinds := [.data, .pinned], laidTests := true, laidLooks := .later }
def FnExactMergeTextsCardSaid : Prop := Claim7.holds Tryd.pinned (.plain (OpenSpec.ofChange fnExactMergeTextsSpec)) fnExactMergeTextsCard

/-- THE TIED CARD OF 'laws.FnMerged'. -/
def fnMergedCard : Claim7 := { stood := { row := fnMergedRow, standIns := [], harness := (true, "577be8788ad72c3ea5c8fdbc21aa75705c9752065a91474da3bf7ea0a6750bcf"), looks := false }, kinds := [], alts := [], laidByText := true, laidKinds := [.data, .pinned], laidTests := true, laidLooks := .later }
def FnMergedCardSaid : Prop := Claim7.holds Tryd.pinned (.plain (OpenSpec.ofChange fnMergedSpec)) fnMergedCard

/-- THE TIED CARD OF 'laws.FnExactDiffTexts'. -/
def fnExactDiffTextsCard : Claim7 := { stood := { row := fnExactDiffTextsRow, standIns := [], harness := (true, "577be8788ad72c3ea5c8fdbc21aa75705c9752065a91474da3bf7ea0a6750bcf"), looks := false }, kinds := [], alts := [], laidByText := true, laidKinds := [.data, .pinned], laidTests := true, laidLooks := .later }
def FnExactDiffTextsCardSaid : Prop := Claim7.holds Tryd.pinned (.plain (OpenSpec.ofChange fnExactDiffTextsSpec)) fnExactDiffTextsCard

/-- THE TIED CARD OF 'laws.FnDiffed'. -/
def fnDiffedCard : Claim7 := { stood := { row := fnDiffedRow, standIns := [], harness := (true, "577be8788ad72c3ea5c8fdbc21aa75705c9752065a91474da3bf7ea0a6750bcf"), looks := false }, kinds := [], alts := [], laidByText := true, laidKinds := [.data, .pinned], laidTests := true, laidLooks := .later }
def FnDiffedCardSaid : Prop := Claim7.holds Tryd.pinned (.plain (OpenSpec.ofChange fnDiffedSpec)) fnDiffedCard

/-- THE SECOND FORM's CARD OF 'laws.FnExactMergeTexts'. -/
def fnExactMergeTextsUptoCard : Claim7 := { stood := { row := fnExactMergeTextsUptoRow, standIns := [], harness := (true, "577be8788ad72c3ea5c8fdbc21aa75705c9752065a91474da3bf7ea0a6750bcf"), looks := false }, kinds := [], alts := [], laidByText := true, laidKinds := [.data, .pinned], laidTests := true, laidLooks := .later }
def FnExactMergeTextsUptoCardSaid : Prop := Claim7.holds Tryd.pinned (.plain (OpenSpec.upto fnExactMergeTextsSpec)) fnExactMergeTextsUptoCard

/-- THE SECOND FORM's CARD OF 'laws.FnMerged'. -/
def fnMergedUptoCard : Claim7 := { stood := { row := fnMergedUptoRow, standIns := [], harness := (true, "577be8788ad72c3ea5c8fdbc21aa75705c9752065a91474da3bf7ea0a6750bcf"), looks := false }, kinds := [], alts := [], laidByText := true, laidKinds := [.data, .pinned], laidTests := true, laidLooks := .later }
def FnMergedUptoCardSaid : Prop := Claim7.holds Tryd.pinned (.plain (OpenSpec.upto fnMergedSpec)) fnMergedUptoCard

/-- THE SECOND FORM's CARD OF 'laws.FnExactDiffTexts'. -/
def fnExactDiffTextsUptoCard : Claim7 := { stood := { row := fnExactDiffTextsUptoRow, standIns := [], harness := (true, "577be8788ad72c3ea5c8fdbc21aa75705c9752065a91474da3bf7ea0a6750bcf"), looks := false }, kinds := [], alts := [], laidByText := true, laidKinds := [.data, .pinned], laidTests := true, laidLooks := .later }
def FnExactDiffTextsUptoCardSaid : Prop := Claim7.holds Tryd.pinned (.plain (OpenSpec.upto fnExactDiffTextsSpec)) fnExactDiffTextsUptoCard

/-- THE SECOND FORM's CARD OF 'laws.FnDiffed'. -/
def fnDiffedUptoCard : Claim7 := { stood := { row := fnDiffedUptoRow, standIns := [], harness := (true, "577be8788ad72c3ea5c8fdbc21aa75705c9752065a91474da3bf7ea0a6750bcf"), looks := false }, kinds := [], alts := [], laidByText := true, laidKinds := [.data, .pinned], laidTests := true, laidLooks := .later }
def FnDiffedUptoCardSaid : Prop := Claim7.holds Tryd.pinned (.plain (OpenSpec.upto fnDiffedSpec)) fnDiffedUptoCard
end Rows
end Go.Proofs.YtkkjkpliiinbjaaDoor
