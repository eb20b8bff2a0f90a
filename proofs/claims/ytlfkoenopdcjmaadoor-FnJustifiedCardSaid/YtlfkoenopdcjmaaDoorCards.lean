/-
  DERIVED. GIVEN WITH THE SEED: THE CARDS: each row of YtlfkoenopdcjmaaDoorRows.lean that lists a variable, with what it lists TIED to the program's text (the seventh form; the later family's looks); each row that meets fmt, with fmt's text TOLD by the authors' own Lean function (tested against real Go, not proved from fmt's source: count such statements apart). THE CARD IS WHAT COUNTS. Prove the row's statement (the work); the ties are given (YtlfkoenopdcjmaaDoorTie.lean); close each card by the builder's one call (the guide's Derived/Test/ToyasCard.lean, 'card_holds'). Laid BY PROGRAM, IN A SANDBOX (cutbox-door.mjs). By AI agents, Wed Nov 11 2026. No macro, syntax, notation, axiom, sorry.
-/
import Derived.Test.YtlfkoenopdcjmaaDoorRows
import GoSem.ClaimSeven
namespace Go.Proofs.YtlfkoenopdcjmaaDoor
namespace Rows

/-- THE TIED CARD OF 'laws.FnExactWideOf'. -/
def fnExactWideOfCard : Claim7 := { stood := { row := fnExactWideOfRow, standIns := [], harness := (true, "b0906916979838f0e2bb47e5a5dc913197c1a036a9b96e1dd691d087b00a4f9c"), looks := false }, kinds := [], alts := [], laidByText := true, laidKinds := [.data, .pinned], laidTests := true, laidLooks := .later }
def FnExactWideOfCardSaid : Prop := Claim7.holds Tryd.pinned (.plain (OpenSpec.ofChange fnExactWideOfSpec)) fnExactWideOfCard

/-- THE TIED CARD OF 'laws.FnExactColumns'. -/
def fnExactColumnsCard : Claim7 := { stood := { row := fnExactColumnsRow, standIns := [], harness := (true, "b0906916979838f0e2bb47e5a5dc913197c1a036a9b96e1dd691d087b00a4f9c"), looks := false }, kinds := [], alts := [], laidByText := true, laidKinds := [.data, .pinned], laidTests := true, laidLooks := .later }
def FnExactColumnsCardSaid : Prop := Claim7.holds Tryd.pinned (.plain (OpenSpec.ofChange fnExactColumnsSpec)) fnExactColumnsCard

/-- THE TIED CARD OF 'laws.FnExactJustified'. -/
def fnExactJustifiedCard : Claim7 := { stood := { row := fnExactJustifiedRow, standIns := [], harness := (true, "b0906916979838f0e2bb47e5a5dc913197c1a036a9b96e1dd691d087b00a4f9c"), looks := false }, kinds := [], alts := [], laidByText := true, laidKinds := [.data, .pinned], laidTests := true, laidLooks := .later }
def FnExactJustifiedCardSaid : Prop := Claim7.holds Tryd.pinned (.plain (OpenSpec.ofChange fnExactJustifiedSpec)) fnExactJustifiedCard

/-- THE TIED CARD OF 'laws.FnJustified'. -/
def fnJustifiedCard : Claim7 := { stood := { row := fnJustifiedRow, standIns := [], harness := (true, "b0906916979838f0e2bb47e5a5dc913197c1a036a9b96e1dd691d087b00a4f9c"), looks := false }, kinds := [], alts := [], laidByText := true, laidKinds := [.data, .pinned], laidTests := true, laidLooks := .later }
def FnJustifiedCardSaid : Prop := Claim7.holds Tryd.pinned (.plain (OpenSpec.ofChange fnJustifiedSpec)) fnJustifiedCard

/-- THE SECOND FORM's CARD OF 'laws.FnExactWideOf'. -/
def fnExactWideOfUptoCard : Claim7 := { stood := { row := fnExactWideOfUptoRow, standIns := [], harness := (true, "b0906916979838f0e2bb47e5a5dc913197c1a036a9b96e1dd691d087b00a4f9c"), looks := false }, kinds := [], alts := [], laidByText := true, laidKinds := [.data, .pinned], laidTests := true, laidLooks := .later }
def FnExactWideOfUptoCardSaid : Prop := Claim7.holds Tryd.pinned (.plain (OpenSpec.upto fnExactWideOfSpec)) fnExactWideOfUptoCard

/-- THE SECOND FORM's CARD OF 'laws.FnExactColumns'. -/
def fnExactColumnsUptoCard : Claim7 := { stood := { row := fnExactColumnsUptoRow, standIns := [], harness := (true, "b0906916979838f0e2bb47e5a5dc913197c1a036a9b96e1dd691d087b00a4f9c"), looks := false }, kinds := [], alts := [], laidByText := true, laidKinds := [.data, .pinned], laidTests := true, laidLooks := .later }
def FnExactColumnsUptoCardSaid : Prop := Claim7.holds Tryd.pinned (.plain (OpenSpec.upto fnExactColumnsSpec)) fnExactColumnsUptoCard

/-- THE SECOND FORM's CARD OF 'laws.FnExactJustified'. -/
def fnExactJustifiedUptoCard : Claim7 := { stood := { row := fnExactJustifiedUptoRow, standIns := [], harness := (true, "b0906916979838f0e2bb47e5a5dc913197c1a036a9b96e1dd691d087b00a4f9c"), looks := false }, kinds := [], alts := [], laidByText := true, laidKinds := [.data, .pinned], laidTests := true, laidLooks := .later }
def FnExactJustifiedUptoCardSaid : Prop := Claim7.holds Tryd.pinned (.plain (OpenSpec.upto fnExactJustifiedSpec)) fnExactJustifiedUptoCard

/-- THE SECOND FORM's CARD OF 'laws.FnJustified'. -/
def fnJustifiedUptoCard : Claim7 := { stood := { row := fnJustifiedUptoRow, standIns := [], harness := (true, "b0906916979838f0e2bb47e5a5dc913197c1a036a9b96e1dd691d087b00a4f9c"), looks := false }, kinds := [], alts := [], laidByText := true, laidKinds := [.data, .pinned], laidTests := true, laidLooks := .later }
def FnJustifiedUptoCardSaid : Prop := Claim7.holds Tryd.pinned (.plain (OpenSpec.upto fnJustifiedSpec)) fnJustifiedUptoCard
end Rows
end Go.Proofs.YtlfkoenopdcjmaaDoor
