/-
  DERIVED. GIVEN WITH THE SEED: THE CARDS: each row of YtfbhkkedmfbgbaaDoorRows.lean that lists a variable, with what it lists TIED to the program's text (the seventh form; the later family's looks); each row that meets fmt, with fmt's text TOLD by the authors' own Lean function (tested against real Go, not proved from fmt's source: count such statements apart). THE CARD IS WHAT COUNTS. Prove the row's statement (the work); the ties are given (YtfbhkkedmfbgbaaDoorTie.lean); close each card by the builder's one call (the guide's Derived/Test/ToyasCard.lean, 'card_holds'). Laid BY PROGRAM, IN A SANDBOX (cutbox-door.mjs). By AI agents, Wed Nov 11 2026. No macro, syntax, notation, axiom, sorry.
-/
import Derived.Test.YtfbhkkedmfbgbaaDoorRows
import GoSem.ClaimSeven
namespace Go.Proofs.YtfbhkkedmfbgbaaDoor
namespace Rows

/-- THE TIED CARD OF 'laws.FnExactPutMark'. -/
def fnExactPutMarkCard : Claim7 := { stood := { row := fnExactPutMarkRow, standIns := [], harness := (true, "f944dfc5a3e8887e9d48d3bac905e253247cb9e21d2ddb58a9336daaa5cd173b"), looks := false }, kinds := [], alts := [], laidByText := true, laidKinds := [.data, .pinned], laidTests := true, laidLooks := .later }
def FnExactPutMarkCardSaid : Prop := Claim7.holds Tryd.pinned (.plain (OpenSpec.ofChange fnExactPutMarkSpec)) fnExactPutMarkCard

/-- THE TIED CARD OF 'laws.FnMarked'. -/
def fnMarkedCard : Claim7 := { stood := { row := fnMarkedRow, standIns := [], harness := (true, "f944dfc5a3e8887e9d48d3bac905e253247cb9e21d2ddb58a9336daaa5cd173b"), looks := false }, kinds := [], alts := [], laidByText := true, laidKinds := [.data, .pinned], laidTests := true, laidLooks := .later }
def FnMarkedCardSaid : Prop := Claim7.holds Tryd.pinned (.plain (OpenSpec.ofChange fnMarkedSpec)) fnMarkedCard

/-- THE SECOND FORM's CARD OF 'laws.FnExactPutMark'. -/
def fnExactPutMarkUptoCard : Claim7 := { stood := { row := fnExactPutMarkUptoRow, standIns := [], harness := (true, "f944dfc5a3e8887e9d48d3bac905e253247cb9e21d2ddb58a9336daaa5cd173b"), looks := false }, kinds := [], alts := [], laidByText := true, laidKinds := [.data, .pinned], laidTests := true, laidLooks := .later }
def FnExactPutMarkUptoCardSaid : Prop := Claim7.holds Tryd.pinned (.plain (OpenSpec.upto fnExactPutMarkSpec)) fnExactPutMarkUptoCard

/-- THE SECOND FORM's CARD OF 'laws.FnMarked'. -/
def fnMarkedUptoCard : Claim7 := { stood := { row := fnMarkedUptoRow, standIns := [], harness := (true, "f944dfc5a3e8887e9d48d3bac905e253247cb9e21d2ddb58a9336daaa5cd173b"), looks := false }, kinds := [], alts := [], laidByText := true, laidKinds := [.data, .pinned], laidTests := true, laidLooks := .later }
def FnMarkedUptoCardSaid : Prop := Claim7.holds Tryd.pinned (.plain (OpenSpec.upto fnMarkedSpec)) fnMarkedUptoCard
end Rows
end Go.Proofs.YtfbhkkedmfbgbaaDoor
