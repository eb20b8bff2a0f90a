/-
  DERIVED. GIVEN WITH THE SEED: THE CARDS: each row of YtmmmlfndnoeedaaDoorRows.lean that lists a variable, with what it lists TIED to the program's text (the seventh form; the later family's looks); each row that meets fmt, with fmt's text TOLD by the authors' own Lean function (tested against real Go, not proved from fmt's source: count such statements apart). THE CARD IS WHAT COUNTS. Prove the row's statement (the work); the ties are given (YtmmmlfndnoeedaaDoorTie.lean); close each card by the builder's one call (the guide's Derived/Test/ToyasCard.lean, 'card_holds'). Laid BY PROGRAM, IN A SANDBOX (cutbox-door.mjs). By AI agents, Wed Nov 11 2026. No macro, syntax, notation, axiom, sorry.
-/
import Derived.Test.YtmmmlfndnoeedaaDoorRows
import GoSem.ClaimSeven
namespace Go.Proofs.YtmmmlfndnoeedaaDoor
namespace Rows

/-- THE TIED CARD OF 'laws.FnExactIdFault'. -/
def fnExactIdFaultCard : Claim7 := { stood := { row := fnExactIdFaultRow, standIns := [], harness := (true, "a4cd2be7fc220dff9b244525039408722642e08504f5b3ef019ecf55ac61948f"), looks := false }, kinds := [], alts := [], laidByText := true, laidKinds := [.data, .pinned], laidTests := true, laidLooks := .later }
def FnExactIdFaultCardSaid : Prop := Claim7.holds Tryd.pinned (.plain (OpenSpec.ofChange fnExactIdFaultSpec)) fnExactIdFaultCard

/-- THE TIED CARD OF 'laws.FnExactMarksAt'. -/
def fnExactMarksAtCard : Claim7 := { stood := { row := fnExactMarksAtRow, standIns := [], harness := (true, "a4cd2be7fc220dff9b244525039408722642e08504f5b3ef019ecf55ac61948f"), looks := false }, kinds := [], alts := [], laidByText := true, laidKinds := [.data, .pinned], laidTests := true, laidLooks := .later }
def FnExactMarksAtCardSaid : Prop := Claim7.holds Tryd.pinned (.plain (OpenSpec.ofChange fnExactMarksAtSpec)) fnExactMarksAtCard

/-- THE TIED CARD OF 'laws.FnExactLookAlike'. -/
def fnExactLookAlikeCard : Claim7 := { stood := { row := fnExactLookAlikeRow, standIns := [], harness := (true, "a4cd2be7fc220dff9b244525039408722642e08504f5b3ef019ecf55ac61948f"), looks := false }, kinds := [], alts := [], laidByText := true, laidKinds := [.data, .data, .pinned], laidTests := true, laidLooks := .later }
def FnExactLookAlikeCardSaid : Prop := Claim7.holds Tryd.pinned (.plain (OpenSpec.ofChange fnExactLookAlikeSpec)) fnExactLookAlikeCard

/-- THE TIED CARD OF 'laws.FnExactSkeletonOf'. -/
def fnExactSkeletonOfCard : Claim7 := { stood := { row := fnExactSkeletonOfRow, standIns := [], harness := (true, "a4cd2be7fc220dff9b244525039408722642e08504f5b3ef019ecf55ac61948f"), looks := false }, kinds := [], alts := [], laidByText := true, laidKinds := [.data, .data, .pinned], laidTests := true, laidLooks := .later }
def FnExactSkeletonOfCardSaid : Prop := Claim7.holds Tryd.pinned (.plain (OpenSpec.ofChange fnExactSkeletonOfSpec)) fnExactSkeletonOfCard

/-- THE SECOND FORM's CARD OF 'laws.FnExactIdFault'. -/
def fnExactIdFaultUptoCard : Claim7 := { stood := { row := fnExactIdFaultUptoRow, standIns := [], harness := (true, "a4cd2be7fc220dff9b244525039408722642e08504f5b3ef019ecf55ac61948f"), looks := false }, kinds := [], alts := [], laidByText := true, laidKinds := [.data, .pinned], laidTests := true, laidLooks := .later }
def FnExactIdFaultUptoCardSaid : Prop := Claim7.holds Tryd.pinned (.plain (OpenSpec.upto fnExactIdFaultSpec)) fnExactIdFaultUptoCard

/-- THE SECOND FORM's CARD OF 'laws.FnExactMarksAt'. -/
def fnExactMarksAtUptoCard : Claim7 := { stood := { row := fnExactMarksAtUptoRow, standIns := [], harness := (true, "a4cd2be7fc220dff9b244525039408722642e08504f5b3ef019ecf55ac61948f"), looks := false }, kinds := [], alts := [], laidByText := true, laidKinds := [.data, .pinned], laidTests := true, laidLooks := .later }
def FnExactMarksAtUptoCardSaid : Prop := Claim7.holds Tryd.pinned (.plain (OpenSpec.upto fnExactMarksAtSpec)) fnExactMarksAtUptoCard

/-- THE SECOND FORM's CARD OF 'laws.FnExactLookAlike'. -/
def fnExactLookAlikeUptoCard : Claim7 := { stood := { row := fnExactLookAlikeUptoRow, standIns := [], harness := (true, "a4cd2be7fc220dff9b244525039408722642e08504f5b3ef019ecf55ac61948f"), looks := false }, kinds := [], alts := [], laidByText := true, laidKinds := [.data, .data, .pinned], laidTests := true, laidLooks := .later }
def FnExactLookAlikeUptoCardSaid : Prop := Claim7.holds Tryd.pinned (.plain (OpenSpec.upto fnExactLookAlikeSpec)) fnExactLookAlikeUptoCard

/-- THE SECOND FORM's CARD OF 'laws.FnExactSkeletonOf'. -/
def fnExactSkeletonOfUptoCard : Claim7 := { stood := { row := fnExactSkeletonOfUptoRow, standIns := [], harness := (true, "a4cd2be7fc220dff9b244525039408722642e08504f5b3ef019ecf55ac61948f"), looks := false }, kinds := [], alts := [], laidByText := true, laidKinds := [.data, .data, .pinned], laidTests := true, laidLooks := .later }
def FnExactSkeletonOfUptoCardSaid : Prop := Claim7.holds Tryd.pinned (.plain (OpenSpec.upto fnExactSkeletonOfSpec)) fnExactSkeletonOfUptoCard
end Rows
end Go.Proofs.YtmmmlfndnoeedaaDoor
