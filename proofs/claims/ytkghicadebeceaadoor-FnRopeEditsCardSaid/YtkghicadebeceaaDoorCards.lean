/-
  DERIVED. GIVEN WITH THE SEED: THE CARDS: each row of YtkghicadebeceaaDoorRows.lean that lists a variable, with what it lists TIED to the program's text (the seventh form; the later family's looks); each row that meets fmt, with fmt's text TOLD by the authors' own Lean function (tested against real Go, not proved from fmt's source: count such statements apart). THE CARD IS WHAT COUNTS. Prove the row's statement (the work); the ties are given (YtkghicadebeceaaDoorTie.lean); close each card by the builder's one call (the guide's Derived/Test/ToyasCard.lean, 'card_holds'). Laid BY PROGRAM, IN A SANDBOX (cutbox-door.mjs). By AI agents, Wed Nov 11 2026. No macro, syntax, notation, axiom, sorry.
-/
import Derived.Test.YtkghicadebeceaaDoorRows
import GoSem.ClaimSeven
namespace Go.Proofs.YtkghicadebeceaaDoor
namespace Rows

/-- THE TIED CARD OF 'laws.FnRope'. -/
def fnRopeCard : Claim7 := { stood := { row := fnRopeRow, standIns := [], harness := (true, "f9cbcc0377c1ee8565fbeb3413bfd715aa56c2d4ba963c5cb837f9e90f6d0412"), looks := false }, kinds := [], alts := [], laidByText := true, laidKinds := [.data, .pinned], laidTests := true, laidLooks := .later }
def FnRopeCardSaid : Prop := Claim7.holds Tryd.pinned (.plain (OpenSpec.ofChange fnRopeSpec)) fnRopeCard

/-- THE TIED CARD OF 'laws.FnExactWideOf'. -/
def fnExactWideOfCard : Claim7 := { stood := { row := fnExactWideOfRow, standIns := [], harness := (true, "f9cbcc0377c1ee8565fbeb3413bfd715aa56c2d4ba963c5cb837f9e90f6d0412"), looks := false }, kinds := [], alts := [], laidByText := true, laidKinds := [.data, .pinned], laidTests := true, laidLooks := .later }
def FnExactWideOfCardSaid : Prop := Claim7.holds Tryd.pinned (.plain (OpenSpec.ofChange fnExactWideOfSpec)) fnExactWideOfCard

/-- THE TIED CARD OF 'laws.FnExactRopeFault'. -/
def fnExactRopeFaultCard : Claim7 := { stood := { row := fnExactRopeFaultRow, standIns := [], harness := (true, "f9cbcc0377c1ee8565fbeb3413bfd715aa56c2d4ba963c5cb837f9e90f6d0412"), looks := false }, kinds := [], alts := [], laidByText := true, laidKinds := [.data, .pinned], laidTests := true, laidLooks := .later }
def FnExactRopeFaultCardSaid : Prop := Claim7.holds Tryd.pinned (.plain (OpenSpec.ofChange fnExactRopeFaultSpec)) fnExactRopeFaultCard

/-- THE TIED CARD OF 'laws.FnExactRopeText'. -/
def fnExactRopeTextCard : Claim7 := { stood := { row := fnExactRopeTextRow, standIns := [], harness := (true, "f9cbcc0377c1ee8565fbeb3413bfd715aa56c2d4ba963c5cb837f9e90f6d0412"), looks := false }, kinds := [], alts := [], laidByText := true, laidKinds := [.data, .pinned], laidTests := true, laidLooks := .later }
def FnExactRopeTextCardSaid : Prop := Claim7.holds Tryd.pinned (.plain (OpenSpec.ofChange fnExactRopeTextSpec)) fnExactRopeTextCard

/-- THE TIED CARD OF 'laws.FnExactLineAt'. -/
def fnExactLineAtCard : Claim7 := { stood := { row := fnExactLineAtRow, standIns := [], harness := (true, "f9cbcc0377c1ee8565fbeb3413bfd715aa56c2d4ba963c5cb837f9e90f6d0412"), looks := false }, kinds := [], alts := [], laidByText := true, laidKinds := [.data, .pinned], laidTests := true, laidLooks := .later }
def FnExactLineAtCardSaid : Prop := Claim7.holds Tryd.pinned (.plain (OpenSpec.ofChange fnExactLineAtSpec)) fnExactLineAtCard

/-- THE TIED CARD OF 'laws.FnExactPiece'. -/
def fnExactPieceCard : Claim7 := { stood := { row := fnExactPieceRow, standIns := [], harness := (true, "f9cbcc0377c1ee8565fbeb3413bfd715aa56c2d4ba963c5cb837f9e90f6d0412"), looks := false }, kinds := [], alts := [], laidByText := true, laidKinds := [.data, .pinned], laidTests := true, laidLooks := .later }
def FnExactPieceCardSaid : Prop := Claim7.holds Tryd.pinned (.plain (OpenSpec.ofChange fnExactPieceSpec)) fnExactPieceCard

/-- THE TIED CARD OF 'laws.FnExactPlaceOfLine'. -/
def fnExactPlaceOfLineCard : Claim7 := { stood := { row := fnExactPlaceOfLineRow, standIns := [], harness := (true, "f9cbcc0377c1ee8565fbeb3413bfd715aa56c2d4ba963c5cb837f9e90f6d0412"), looks := false }, kinds := [], alts := [], laidByText := true, laidKinds := [.data, .pinned], laidTests := true, laidLooks := .later }
def FnExactPlaceOfLineCardSaid : Prop := Claim7.holds Tryd.pinned (.plain (OpenSpec.ofChange fnExactPlaceOfLineSpec)) fnExactPlaceOfLineCard

/-- THE TIED CARD OF 'laws.FnExactEditRope'. -/
def fnExactEditRopeCard : Claim7 := { stood := { row := fnExactEditRopeRow, standIns := [], harness := (true, "f9cbcc0377c1ee8565fbeb3413bfd715aa56c2d4ba963c5cb837f9e90f6d0412"), looks := false }, kinds := [], alts := [], laidByText := true, laidKinds := [.data, .pinned], laidTests := true, laidLooks := .later }
def FnExactEditRopeCardSaid : Prop := Claim7.holds Tryd.pinned (.plain (OpenSpec.ofChange fnExactEditRopeSpec)) fnExactEditRopeCard

/-- THE TIED CARD OF 'laws.FnExactMarksAt'. -/
def fnExactMarksAtCard : Claim7 := { stood := { row := fnExactMarksAtRow, standIns := [], harness := (true, "f9cbcc0377c1ee8565fbeb3413bfd715aa56c2d4ba963c5cb837f9e90f6d0412"), looks := false }, kinds := [], alts := [], laidByText := true, laidKinds := [.data, .pinned], laidTests := true, laidLooks := .later }
def FnExactMarksAtCardSaid : Prop := Claim7.holds Tryd.pinned (.plain (OpenSpec.ofChange fnExactMarksAtSpec)) fnExactMarksAtCard

/-- THE TIED CARD OF 'laws.FnExactPutMark'. -/
def fnExactPutMarkCard : Claim7 := { stood := { row := fnExactPutMarkRow, standIns := [], harness := (true, "f9cbcc0377c1ee8565fbeb3413bfd715aa56c2d4ba963c5cb837f9e90f6d0412"), looks := false }, kinds := [], alts := [], laidByText := true, laidKinds := [.data, .pinned], laidTests := true, laidLooks := .later }
def FnExactPutMarkCardSaid : Prop := Claim7.holds Tryd.pinned (.plain (OpenSpec.ofChange fnExactPutMarkSpec)) fnExactPutMarkCard

/-- THE TIED CARD OF 'laws.FnRopeEdits'. -/
def fnRopeEditsCard : Claim7 := { stood := { row := fnRopeEditsRow, standIns := [], harness := (true, "f9cbcc0377c1ee8565fbeb3413bfd715aa56c2d4ba963c5cb837f9e90f6d0412"), looks := false }, kinds := [], alts := [], laidByText := true, laidKinds := [.data, .pinned], laidTests := true, laidLooks := .later }
def FnRopeEditsCardSaid : Prop := Claim7.holds Tryd.pinned (.plain (OpenSpec.ofChange fnRopeEditsSpec)) fnRopeEditsCard

/-- THE TIED CARD OF 'laws.FnMarked'. -/
def fnMarkedCard : Claim7 := { stood := { row := fnMarkedRow, standIns := [], harness := (true, "f9cbcc0377c1ee8565fbeb3413bfd715aa56c2d4ba963c5cb837f9e90f6d0412"), looks := false }, kinds := [], alts := [], laidByText := true, laidKinds := [.data, .pinned], laidTests := true, laidLooks := .later }
def FnMarkedCardSaid : Prop := Claim7.holds Tryd.pinned (.plain (OpenSpec.ofChange fnMarkedSpec)) fnMarkedCard

/-- THE SECOND FORM's CARD OF 'laws.FnRope'. -/
def fnRopeUptoCard : Claim7 := { stood := { row := fnRopeUptoRow, standIns := [], harness := (true, "f9cbcc0377c1ee8565fbeb3413bfd715aa56c2d4ba963c5cb837f9e90f6d0412"), looks := false }, kinds := [], alts := [], laidByText := true, laidKinds := [.data, .pinned], laidTests := true, laidLooks := .later }
def FnRopeUptoCardSaid : Prop := Claim7.holds Tryd.pinned (.plain (OpenSpec.upto fnRopeSpec)) fnRopeUptoCard

/-- THE SECOND FORM's CARD OF 'laws.FnExactWideOf'. -/
def fnExactWideOfUptoCard : Claim7 := { stood := { row := fnExactWideOfUptoRow, standIns := [], harness := (true, "f9cbcc0377c1ee8565fbeb3413bfd715aa56c2d4ba963c5cb837f9e90f6d0412"), looks := false }, kinds := [], alts := [], laidByText := true, laidKinds := [.data, .pinned], laidTests := true, laidLooks := .later }
def FnExactWideOfUptoCardSaid : Prop := Claim7.holds Tryd.pinned (.plain (OpenSpec.upto fnExactWideOfSpec)) fnExactWideOfUptoCard

/-- THE SECOND FORM's CARD OF 'laws.FnExactRopeFault'. -/
def fnExactRopeFaultUptoCard : Claim7 := { stood := { row := fnExactRopeFaultUptoRow, standIns := [], harness := (true, "f9cbcc0377c1ee8565fbeb3413bfd715aa56c2d4ba963c5cb837f9e90f6d0412"), looks := false }, kinds := [], alts := [], laidByText := true, laidKinds := [.data, .pinned], laidTests := true, laidLooks := .later }
def FnExactRopeFaultUptoCardSaid : Prop := Claim7.holds Tryd.pinned (.plain (OpenSpec.upto fnExactRopeFaultSpec)) fnExactRopeFaultUptoCard

/-- THE SECOND FORM's CARD OF 'laws.FnExactRopeText'. -/
def fnExactRopeTextUptoCard : Claim7 := { stood := { row := fnExactRopeTextUptoRow, standIns := [], harness := (true, "f9cbcc0377c1ee8565fbeb3413bfd715aa56c2d4ba963c5cb837f9e90f6d0412"), looks := false }, kinds := [], alts := [], laidByText := true, laidKinds := [.data, .pinned], laidTests := true, laidLooks := .later }
def FnExactRopeTextUptoCardSaid : Prop := Claim7.holds Tryd.pinned (.plain (OpenSpec.upto fnExactRopeTextSpec)) fnExactRopeTextUptoCard

/-- THE SECOND FORM's CARD OF 'laws.FnExactLineAt'. -/
def fnExactLineAtUptoCard : Claim7 := { stood := { row := fnExactLineAtUptoRow, standIns := [], harness := (true, "f9cbcc0377c1ee8565fbeb3413bfd715aa56c2d4ba963c5cb837f9e90f6d0412"), looks := false }, kinds := [], alts := [], laidByText := true, laidKinds := [.data, .pinned], laidTests := true, laidLooks := .later }
def FnExactLineAtUptoCardSaid : Prop := Claim7.holds Tryd.pinned (.plain (OpenSpec.upto fnExactLineAtSpec)) fnExactLineAtUptoCard

/-- THE SECOND FORM's CARD OF 'laws.FnExactPiece'. -/
def fnExactPieceUptoCard : Claim7 := { stood := { row := fnExactPieceUptoRow, standIns := [], harness := (true, "f9cbcc0377c1ee8565fbeb3413bfd715aa56c2d4ba963c5cb837f9e90f6d0412"), looks := false }, kinds := [], alts := [], laidByText := true, laidKinds := [.data, .pinned], laidTests := true, laidLooks := .later }
def FnExactPieceUptoCardSaid : Prop := Claim7.holds Tryd.pinned (.plain (OpenSpec.upto fnExactPieceSpec)) fnExactPieceUptoCard

/-- THE SECOND FORM's CARD OF 'laws.FnExactPlaceOfLine'. -/
def fnExactPlaceOfLineUptoCard : Claim7 := { stood := { row := fnExactPlaceOfLineUptoRow, standIns := [], harness := (true, "f9cbcc0377c1ee8565fbeb3413bfd715aa56c2d4ba963c5cb837f9e90f6d0412"), looks := false }, kinds := [], alts := [], laidByText := true, laidKinds := [.data, .pinned], laidTests := true, laidLooks := .later }
def FnExactPlaceOfLineUptoCardSaid : Prop := Claim7.holds Tryd.pinned (.plain (OpenSpec.upto fnExactPlaceOfLineSpec)) fnExactPlaceOfLineUptoCard

/-- THE SECOND FORM's CARD OF 'laws.FnExactEditRope'. -/
def fnExactEditRopeUptoCard : Claim7 := { stood := { row := fnExactEditRopeUptoRow, standIns := [], harness := (true, "f9cbcc0377c1ee8565fbeb3413bfd715aa56c2d4ba963c5cb837f9e90f6d0412"), looks := false }, kinds := [], alts := [], laidByText := true, laidKinds := [.data, .pinned], laidTests := true, laidLooks := .later }
def FnExactEditRopeUptoCardSaid : Prop := Claim7.holds Tryd.pinned (.plain (OpenSpec.upto fnExactEditRopeSpec)) fnExactEditRopeUptoCard

/-- THE SECOND FORM's CARD OF 'laws.FnExactMarksAt'. -/
def fnExactMarksAtUptoCard : Claim7 := { stood := { row := fnExactMarksAtUptoRow, standIns := [], harness := (true, "f9cbcc0377c1ee8565fbeb3413bfd715aa56c2d4ba963c5cb837f9e90f6d0412"), looks := false }, kinds := [], alts := [], laidByText := true, laidKinds := [.data, .pinned], laidTests := true, laidLooks := .later }
def FnExactMarksAtUptoCardSaid : Prop := Claim7.holds Tryd.pinned (.plain (OpenSpec.upto fnExactMarksAtSpec)) fnExactMarksAtUptoCard

/-- THE SECOND FORM's CARD OF 'laws.FnExactPutMark'. -/
def fnExactPutMarkUptoCard : Claim7 := { stood := { row := fnExactPutMarkUptoRow, standIns := [], harness := (true, "f9cbcc0377c1ee8565fbeb3413bfd715aa56c2d4ba963c5cb837f9e90f6d0412"), looks := false }, kinds := [], alts := [], laidByText := true, laidKinds := [.data, .pinned], laidTests := true, laidLooks := .later }
def FnExactPutMarkUptoCardSaid : Prop := Claim7.holds Tryd.pinned (.plain (OpenSpec.upto fnExactPutMarkSpec)) fnExactPutMarkUptoCard

/-- THE SECOND FORM's CARD OF 'laws.FnRopeEdits'. -/
def fnRopeEditsUptoCard : Claim7 := { stood := { row := fnRopeEditsUptoRow, standIns := [], harness := (true, "f9cbcc0377c1ee8565fbeb3413bfd715aa56c2d4ba963c5cb837f9e90f6d0412"), looks := false }, kinds := [], alts := [], laidByText := true, laidKinds := [.data, .pinned], laidTests := true, laidLooks := .later }
def FnRopeEditsUptoCardSaid : Prop := Claim7.holds Tryd.pinned (.plain (OpenSpec.upto fnRopeEditsSpec)) fnRopeEditsUptoCard

/-- THE SECOND FORM's CARD OF 'laws.FnMarked'. -/
def fnMarkedUptoCard : Claim7 := { stood := { row := fnMarkedUptoRow, standIns := [], harness := (true, "f9cbcc0377c1ee8565fbeb3413bfd715aa56c2d4ba963c5cb837f9e90f6d0412"), looks := false }, kinds := [], alts := [], laidByText := true, laidKinds := [.data, .pinned], laidTests := true, laidLooks := .later }
def FnMarkedUptoCardSaid : Prop := Claim7.holds Tryd.pinned (.plain (OpenSpec.upto fnMarkedSpec)) fnMarkedUptoCard
end Rows
end Go.Proofs.YtkghicadebeceaaDoor
