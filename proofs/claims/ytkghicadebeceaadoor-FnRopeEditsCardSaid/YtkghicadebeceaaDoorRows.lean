/-
  NARROWER THAN 'FOR EVERY INPUT', by the rows' own cells (each row's printed sentence says how): FnRope: laid · FnExactWideOf: laid · FnExactRopeFault: laid · FnExactRopeText: laid · FnExactLineAt: laid · FnExactPiece: laid · FnExactPlaceOfLine: laid · FnExactEditRope: laid · FnExactMarksAt: laid · FnExactPutMark: laid · FnRopeEdits: laid · FnMarked: laid.
  DERIVED. THE GIVEN ROWS OF THIS SEAT. 12 by the template 'for every input the law returns true; each argument reads behind the call as it read before'; 0 by the template 'total and deterministic' (their statements: YtkghicadebeceaaDoorTotals.lean).
  GIVEN WITH THE SEED: the statements are not yours to turn. If you find one false, say at which input.
  Laid BY PROGRAM, IN A SANDBOX (cutbox-rows.mjs): the forced cells as the released guide's own fill.sh prints them over the translation 526a152a30fca352… (all of the seat's roots in one cut). By AI agents, Wed Nov 11 2026. No macro, syntax, notation, axiom, sorry.
-/
import Derived.Test.YtkghicadebeceaaDoorChecked
import GoSem.PinnedTables
import GoSem.Claim
import GoSem.ClaimJoined
import GoSem.ClaimMapViews
import Derived.JoinedTies
import Derived.KernelRfl
namespace Go.Proofs.YtkghicadebeceaaDoor
/- THE CELL 'sum', in the pinned program and in every row, IS THE sha256 OF THE DUMP (.gsa) THAT YtkghicadebeceaaDoorProg.lean LOADS. Nothing in Lean hashes anything: it is a label: what it is worth is what the hold of that sum in a sandbox is worth. -/
noncomputable def Tryd.pinned : Pinned := { name := "ytkghicadebeceaadoor", sum := "526a152a30fca352270f0d8940e9f13cb4e3db8b51715ac2781785f6a0a2f0cc", checked := Tryd.checked }
namespace Rows
def none {H : Type} : Left H := { results := [], args := [] }

/- WHAT THE LISTED PACKAGE-LEVEL VARIABLES READ AS WHEN THE CALL BEGINS. Each datum BY PROGRAM (the guide's laid-datum.mjs) off the statement by which the dump's own 'gosem.cut.vars' lays the variable. In a bare row this is a premise. The card (YtkghicadebeceaaDoorCards.lean) ties it to the program's text. -/
def laid_unicode_utf8_acceptRanges {H : Type} : DataW H := .agg [.agg [.lit (.int .u8 128), .lit (.int .u8 191)], .agg [.lit (.int .u8 160), .lit (.int .u8 191)], .agg [.lit (.int .u8 128), .lit (.int .u8 159)], .agg [.lit (.int .u8 144), .lit (.int .u8 191)], .agg [.lit (.int .u8 128), .lit (.int .u8 143)], .agg [.lit (.int .u8 0), .lit (.int .u8 0)], .agg [.lit (.int .u8 0), .lit (.int .u8 0)], .agg [.lit (.int .u8 0), .lit (.int .u8 0)], .agg [.lit (.int .u8 0), .lit (.int .u8 0)], .agg [.lit (.int .u8 0), .lit (.int .u8 0)], .agg [.lit (.int .u8 0), .lit (.int .u8 0)], .agg [.lit (.int .u8 0), .lit (.int .u8 0)], .agg [.lit (.int .u8 0), .lit (.int .u8 0)], .agg [.lit (.int .u8 0), .lit (.int .u8 0)], .agg [.lit (.int .u8 0), .lit (.int .u8 0)], .agg [.lit (.int .u8 0), .lit (.int .u8 0)]]
/-- One of Go's own tables, pinned by name: the form's constant. -/
def laid_unicode_utf8_first : DataW Unit := Go.Pinned.utf8First

/-- 'laws.FnRope': WHATEVER THE INPUT: true; the input reads as it did. -/
def fnRopeSpec : ChangeSpec := { name := "fnRope", fn := fun _ => fun
  | [d1, d2] => { results := [.lit (.bool true)], args := [d1, d2] }
  | _ => none }
def fnRopeRow : OpenClaim := { program := "ytkghicadebeceaadoor", sum := "526a152a30fca352270f0d8940e9f13cb4e3db8b51715ac2781785f6a0a2f0cc", func := "loop.example/g00044/laws.FnRope", spec := "fnRope", inPlace := ["internal/bytealg.CountString", "internal/bytealg.IndexByteString", "internal/bytealg.IndexString", "internal/abi.NoEscape"], recurses := true, named := ["internal/bytealg.MaxLen", "unicode/utf8.first", "unicode/utf8.acceptRanges"], apart := false, laid := [("unicode/utf8.acceptRanges", laid_unicode_utf8_acceptRanges), ("unicode/utf8.first", laid_unicode_utf8_first)] }
def FnRopeSaid : Prop := fnRopeRow.holds Tryd.pinned (OpenSpec.ofChange fnRopeSpec)

/-- ITS FALSE NEIGHBOUR: 'it returns false'. Refute it at one input. -/
def fnRopeWrong : ChangeSpec := { name := "fnRope", fn := fun _ => fun
  | [d1, d2] => { results := [.lit (.bool false)], args := [d1, d2] }
  | _ => none }
def FnRopeWrongFalsely : Prop := fnRopeRow.holds Tryd.pinned (OpenSpec.ofChange fnRopeWrong)

/-- 'laws.FnExactWideOf': WHATEVER THE INPUT: true; the input reads as it did. -/
def fnExactWideOfSpec : ChangeSpec := { name := "fnExactWideOf", fn := fun _ => fun
  | [d] => { results := [.lit (.bool true)], args := [d] }
  | _ => none }
def fnExactWideOfRow : OpenClaim := { program := "ytkghicadebeceaadoor", sum := "526a152a30fca352270f0d8940e9f13cb4e3db8b51715ac2781785f6a0a2f0cc", func := "loop.example/g00044/laws.FnExactWideOf", spec := "fnExactWideOf", unfollowed := true, recurses := true, named := ["unicode/utf8.first", "unicode/utf8.acceptRanges"], apart := false, laid := [("unicode/utf8.acceptRanges", laid_unicode_utf8_acceptRanges), ("unicode/utf8.first", laid_unicode_utf8_first)] }
def FnExactWideOfSaid : Prop := fnExactWideOfRow.holds Tryd.pinned (OpenSpec.ofChange fnExactWideOfSpec)

/-- ITS FALSE NEIGHBOUR: 'it returns false'. Refute it at one input. -/
def fnExactWideOfWrong : ChangeSpec := { name := "fnExactWideOf", fn := fun _ => fun
  | [d] => { results := [.lit (.bool false)], args := [d] }
  | _ => none }
def FnExactWideOfWrongFalsely : Prop := fnExactWideOfRow.holds Tryd.pinned (OpenSpec.ofChange fnExactWideOfWrong)

/-- 'laws.FnExactRopeFault': WHATEVER THE INPUT: true; the input reads as it did. -/
def fnExactRopeFaultSpec : ChangeSpec := { name := "fnExactRopeFault", fn := fun _ => fun
  | [d] => { results := [.lit (.bool true)], args := [d] }
  | _ => none }
def fnExactRopeFaultRow : OpenClaim := { program := "ytkghicadebeceaadoor", sum := "526a152a30fca352270f0d8940e9f13cb4e3db8b51715ac2781785f6a0a2f0cc", func := "loop.example/g00044/laws.FnExactRopeFault", spec := "fnExactRopeFault", inPlace := ["internal/abi.NoEscape", "internal/bytealg.CountString", "internal/bytealg.IndexByteString", "internal/bytealg.IndexString"], recurses := true, named := ["internal/bytealg.MaxLen", "unicode/utf8.first", "unicode/utf8.acceptRanges"], apart := false, laid := [("unicode/utf8.acceptRanges", laid_unicode_utf8_acceptRanges), ("unicode/utf8.first", laid_unicode_utf8_first)] }
def FnExactRopeFaultSaid : Prop := fnExactRopeFaultRow.holds Tryd.pinned (OpenSpec.ofChange fnExactRopeFaultSpec)

/-- ITS FALSE NEIGHBOUR: 'it returns false'. Refute it at one input. -/
def fnExactRopeFaultWrong : ChangeSpec := { name := "fnExactRopeFault", fn := fun _ => fun
  | [d] => { results := [.lit (.bool false)], args := [d] }
  | _ => none }
def FnExactRopeFaultWrongFalsely : Prop := fnExactRopeFaultRow.holds Tryd.pinned (OpenSpec.ofChange fnExactRopeFaultWrong)

/-- 'laws.FnExactRopeText': WHATEVER THE INPUT: true; the input reads as it did. -/
def fnExactRopeTextSpec : ChangeSpec := { name := "fnExactRopeText", fn := fun _ => fun
  | [d] => { results := [.lit (.bool true)], args := [d] }
  | _ => none }
def fnExactRopeTextRow : OpenClaim := { program := "ytkghicadebeceaadoor", sum := "526a152a30fca352270f0d8940e9f13cb4e3db8b51715ac2781785f6a0a2f0cc", func := "loop.example/g00044/laws.FnExactRopeText", spec := "fnExactRopeText", inPlace := ["internal/abi.NoEscape", "internal/bytealg.CountString", "internal/bytealg.IndexByteString", "internal/bytealg.IndexString"], recurses := true, named := ["internal/bytealg.MaxLen", "unicode/utf8.first", "unicode/utf8.acceptRanges"], apart := false, laid := [("unicode/utf8.acceptRanges", laid_unicode_utf8_acceptRanges), ("unicode/utf8.first", laid_unicode_utf8_first)] }
def FnExactRopeTextSaid : Prop := fnExactRopeTextRow.holds Tryd.pinned (OpenSpec.ofChange fnExactRopeTextSpec)

/-- ITS FALSE NEIGHBOUR: 'it returns false'. Refute it at one input. -/
def fnExactRopeTextWrong : ChangeSpec := { name := "fnExactRopeText", fn := fun _ => fun
  | [d] => { results := [.lit (.bool false)], args := [d] }
  | _ => none }
def FnExactRopeTextWrongFalsely : Prop := fnExactRopeTextRow.holds Tryd.pinned (OpenSpec.ofChange fnExactRopeTextWrong)

/-- 'laws.FnExactLineAt': WHATEVER THE INPUT: true; the input reads as it did. -/
def fnExactLineAtSpec : ChangeSpec := { name := "fnExactLineAt", fn := fun _ => fun
  | [d1, d2] => { results := [.lit (.bool true)], args := [d1, d2] }
  | _ => none }
def fnExactLineAtRow : OpenClaim := { program := "ytkghicadebeceaadoor", sum := "526a152a30fca352270f0d8940e9f13cb4e3db8b51715ac2781785f6a0a2f0cc", func := "loop.example/g00044/laws.FnExactLineAt", spec := "fnExactLineAt", inPlace := ["internal/abi.NoEscape", "internal/bytealg.CountString", "internal/bytealg.IndexByteString", "internal/bytealg.IndexString"], recurses := true, named := ["internal/bytealg.MaxLen", "unicode/utf8.first", "unicode/utf8.acceptRanges"], apart := false, laid := [("unicode/utf8.acceptRanges", laid_unicode_utf8_acceptRanges), ("unicode/utf8.first", laid_unicode_utf8_first)] }
def FnExactLineAtSaid : Prop := fnExactLineAtRow.holds Tryd.pinned (OpenSpec.ofChange fnExactLineAtSpec)

/-- ITS FALSE NEIGHBOUR: 'it returns false'. Refute it at one input. -/
def fnExactLineAtWrong : ChangeSpec := { name := "fnExactLineAt", fn := fun _ => fun
  | [d1, d2] => { results := [.lit (.bool false)], args := [d1, d2] }
  | _ => none }
def FnExactLineAtWrongFalsely : Prop := fnExactLineAtRow.holds Tryd.pinned (OpenSpec.ofChange fnExactLineAtWrong)

/-- 'laws.FnExactPiece': WHATEVER THE INPUT: true; the input reads as it did. -/
def fnExactPieceSpec : ChangeSpec := { name := "fnExactPiece", fn := fun _ => fun
  | [d1, d2, d3] => { results := [.lit (.bool true)], args := [d1, d2, d3] }
  | _ => none }
def fnExactPieceRow : OpenClaim := { program := "ytkghicadebeceaadoor", sum := "526a152a30fca352270f0d8940e9f13cb4e3db8b51715ac2781785f6a0a2f0cc", func := "loop.example/g00044/laws.FnExactPiece", spec := "fnExactPiece", inPlace := ["internal/abi.NoEscape", "internal/bytealg.CountString", "internal/bytealg.IndexByteString", "internal/bytealg.IndexString"], recurses := true, named := ["internal/bytealg.MaxLen", "unicode/utf8.first", "unicode/utf8.acceptRanges"], apart := false, laid := [("unicode/utf8.acceptRanges", laid_unicode_utf8_acceptRanges), ("unicode/utf8.first", laid_unicode_utf8_first)] }
def FnExactPieceSaid : Prop := fnExactPieceRow.holds Tryd.pinned (OpenSpec.ofChange fnExactPieceSpec)

/-- ITS FALSE NEIGHBOUR: 'it returns false'. Refute it at one input. -/
def fnExactPieceWrong : ChangeSpec := { name := "fnExactPiece", fn := fun _ => fun
  | [d1, d2, d3] => { results := [.lit (.bool false)], args := [d1, d2, d3] }
  | _ => none }
def FnExactPieceWrongFalsely : Prop := fnExactPieceRow.holds Tryd.pinned (OpenSpec.ofChange fnExactPieceWrong)

/-- 'laws.FnExactPlaceOfLine': WHATEVER THE INPUT: true; the input reads as it did. -/
def fnExactPlaceOfLineSpec : ChangeSpec := { name := "fnExactPlaceOfLine", fn := fun _ => fun
  | [d1, d2] => { results := [.lit (.bool true)], args := [d1, d2] }
  | _ => none }
def fnExactPlaceOfLineRow : OpenClaim := { program := "ytkghicadebeceaadoor", sum := "526a152a30fca352270f0d8940e9f13cb4e3db8b51715ac2781785f6a0a2f0cc", func := "loop.example/g00044/laws.FnExactPlaceOfLine", spec := "fnExactPlaceOfLine", inPlace := ["internal/abi.NoEscape", "internal/bytealg.CountString", "internal/bytealg.IndexByteString", "internal/bytealg.IndexString"], recurses := true, named := ["internal/bytealg.MaxLen", "unicode/utf8.first", "unicode/utf8.acceptRanges"], apart := false, laid := [("unicode/utf8.acceptRanges", laid_unicode_utf8_acceptRanges), ("unicode/utf8.first", laid_unicode_utf8_first)] }
def FnExactPlaceOfLineSaid : Prop := fnExactPlaceOfLineRow.holds Tryd.pinned (OpenSpec.ofChange fnExactPlaceOfLineSpec)

/-- ITS FALSE NEIGHBOUR: 'it returns false'. Refute it at one input. -/
def fnExactPlaceOfLineWrong : ChangeSpec := { name := "fnExactPlaceOfLine", fn := fun _ => fun
  | [d1, d2] => { results := [.lit (.bool false)], args := [d1, d2] }
  | _ => none }
def FnExactPlaceOfLineWrongFalsely : Prop := fnExactPlaceOfLineRow.holds Tryd.pinned (OpenSpec.ofChange fnExactPlaceOfLineWrong)

/-- 'laws.FnExactEditRope': WHATEVER THE INPUT: true; the input reads as it did. -/
def fnExactEditRopeSpec : ChangeSpec := { name := "fnExactEditRope", fn := fun _ => fun
  | [d1, d2] => { results := [.lit (.bool true)], args := [d1, d2] }
  | _ => none }
def fnExactEditRopeRow : OpenClaim := { program := "ytkghicadebeceaadoor", sum := "526a152a30fca352270f0d8940e9f13cb4e3db8b51715ac2781785f6a0a2f0cc", func := "loop.example/g00044/laws.FnExactEditRope", spec := "fnExactEditRope", inPlace := ["internal/abi.NoEscape", "internal/bytealg.CountString", "internal/bytealg.IndexByteString", "internal/bytealg.IndexString"], recurses := true, named := ["internal/bytealg.MaxLen", "unicode/utf8.first", "unicode/utf8.acceptRanges"], apart := false, laid := [("unicode/utf8.acceptRanges", laid_unicode_utf8_acceptRanges), ("unicode/utf8.first", laid_unicode_utf8_first)] }
def FnExactEditRopeSaid : Prop := fnExactEditRopeRow.holds Tryd.pinned (OpenSpec.ofChange fnExactEditRopeSpec)

/-- ITS FALSE NEIGHBOUR: 'it returns false'. Refute it at one input. -/
def fnExactEditRopeWrong : ChangeSpec := { name := "fnExactEditRope", fn := fun _ => fun
  | [d1, d2] => { results := [.lit (.bool false)], args := [d1, d2] }
  | _ => none }
def FnExactEditRopeWrongFalsely : Prop := fnExactEditRopeRow.holds Tryd.pinned (OpenSpec.ofChange fnExactEditRopeWrong)

/-- 'laws.FnExactMarksAt': WHATEVER THE INPUT: true; the input reads as it did. -/
def fnExactMarksAtSpec : ChangeSpec := { name := "fnExactMarksAt", fn := fun _ => fun
  | [d1, d2, d3] => { results := [.lit (.bool true)], args := [d1, d2, d3] }
  | _ => none }
def fnExactMarksAtRow : OpenClaim := { program := "ytkghicadebeceaadoor", sum := "526a152a30fca352270f0d8940e9f13cb4e3db8b51715ac2781785f6a0a2f0cc", func := "loop.example/g00044/laws.FnExactMarksAt", spec := "fnExactMarksAt", inPlace := ["internal/abi.NoEscape", "internal/bytealg.CountString", "internal/bytealg.IndexByteString", "internal/bytealg.IndexString"], unfollowed := true, recurses := true, named := ["internal/bytealg.MaxLen", "unicode/utf8.first", "unicode/utf8.acceptRanges"], apart := false, laid := [("unicode/utf8.acceptRanges", laid_unicode_utf8_acceptRanges), ("unicode/utf8.first", laid_unicode_utf8_first)] }
def FnExactMarksAtSaid : Prop := fnExactMarksAtRow.holds Tryd.pinned (OpenSpec.ofChange fnExactMarksAtSpec)

/-- ITS FALSE NEIGHBOUR: 'it returns false'. Refute it at one input. -/
def fnExactMarksAtWrong : ChangeSpec := { name := "fnExactMarksAt", fn := fun _ => fun
  | [d1, d2, d3] => { results := [.lit (.bool false)], args := [d1, d2, d3] }
  | _ => none }
def FnExactMarksAtWrongFalsely : Prop := fnExactMarksAtRow.holds Tryd.pinned (OpenSpec.ofChange fnExactMarksAtWrong)

/-- 'laws.FnExactPutMark': WHATEVER THE INPUT: true; the input reads as it did. -/
def fnExactPutMarkSpec : ChangeSpec := { name := "fnExactPutMark", fn := fun _ => fun
  | [d1, d2] => { results := [.lit (.bool true)], args := [d1, d2] }
  | _ => none }
def fnExactPutMarkRow : OpenClaim := { program := "ytkghicadebeceaadoor", sum := "526a152a30fca352270f0d8940e9f13cb4e3db8b51715ac2781785f6a0a2f0cc", func := "loop.example/g00044/laws.FnExactPutMark", spec := "fnExactPutMark", inPlace := ["internal/abi.NoEscape", "internal/bytealg.CountString", "internal/bytealg.IndexByteString", "internal/bytealg.IndexString", "internal/bytealg.abigen_runtime_cmpstring"], unfollowed := true, recurses := true, named := ["internal/bytealg.MaxLen", "unicode/utf8.first", "unicode/utf8.acceptRanges"], apart := false, laid := [("unicode/utf8.acceptRanges", laid_unicode_utf8_acceptRanges), ("unicode/utf8.first", laid_unicode_utf8_first)] }
def FnExactPutMarkSaid : Prop := fnExactPutMarkRow.holds Tryd.pinned (OpenSpec.ofChange fnExactPutMarkSpec)

/-- ITS FALSE NEIGHBOUR: 'it returns false'. Refute it at one input. -/
def fnExactPutMarkWrong : ChangeSpec := { name := "fnExactPutMark", fn := fun _ => fun
  | [d1, d2] => { results := [.lit (.bool false)], args := [d1, d2] }
  | _ => none }
def FnExactPutMarkWrongFalsely : Prop := fnExactPutMarkRow.holds Tryd.pinned (OpenSpec.ofChange fnExactPutMarkWrong)

/-- 'laws.FnRopeEdits': WHATEVER THE INPUT: true; the input reads as it did. -/
def fnRopeEditsSpec : ChangeSpec := { name := "fnRopeEdits", fn := fun _ => fun
  | [d] => { results := [.lit (.bool true)], args := [d] }
  | _ => none }
def fnRopeEditsRow : OpenClaim := { program := "ytkghicadebeceaadoor", sum := "526a152a30fca352270f0d8940e9f13cb4e3db8b51715ac2781785f6a0a2f0cc", func := "loop.example/g00044/laws.FnRopeEdits", spec := "fnRopeEdits", inPlace := ["internal/abi.NoEscape", "internal/bytealg.CountString", "internal/bytealg.IndexByteString", "internal/bytealg.IndexString"], recurses := true, named := ["internal/bytealg.MaxLen", "unicode/utf8.first", "unicode/utf8.acceptRanges"], apart := false, laid := [("unicode/utf8.acceptRanges", laid_unicode_utf8_acceptRanges), ("unicode/utf8.first", laid_unicode_utf8_first)] }
def FnRopeEditsSaid : Prop := fnRopeEditsRow.holds Tryd.pinned (OpenSpec.ofChange fnRopeEditsSpec)

/-- ITS FALSE NEIGHBOUR: 'it returns false'. Refute it at one input. -/
def fnRopeEditsWrong : ChangeSpec := { name := "fnRopeEdits", fn := fun _ => fun
  | [d] => { results := [.lit (.bool false)], args := [d] }
  | _ => none }
def FnRopeEditsWrongFalsely : Prop := fnRopeEditsRow.holds Tryd.pinned (OpenSpec.ofChange fnRopeEditsWrong)

/-- 'laws.FnMarked': WHATEVER THE INPUT: true; the input reads as it did. -/
def fnMarkedSpec : ChangeSpec := { name := "fnMarked", fn := fun _ => fun
  | [d] => { results := [.lit (.bool true)], args := [d] }
  | _ => none }
def fnMarkedRow : OpenClaim := { program := "ytkghicadebeceaadoor", sum := "526a152a30fca352270f0d8940e9f13cb4e3db8b51715ac2781785f6a0a2f0cc", func := "loop.example/g00044/laws.FnMarked", spec := "fnMarked", inPlace := ["internal/abi.NoEscape", "internal/bytealg.CountString", "internal/bytealg.IndexByteString", "internal/bytealg.IndexString", "internal/bytealg.abigen_runtime_cmpstring"], unfollowed := true, recurses := true, named := ["internal/bytealg.MaxLen", "unicode/utf8.first", "unicode/utf8.acceptRanges"], apart := false, laid := [("unicode/utf8.acceptRanges", laid_unicode_utf8_acceptRanges), ("unicode/utf8.first", laid_unicode_utf8_first)] }
def FnMarkedSaid : Prop := fnMarkedRow.holds Tryd.pinned (OpenSpec.ofChange fnMarkedSpec)

/-- ITS FALSE NEIGHBOUR: 'it returns false'. Refute it at one input. -/
def fnMarkedWrong : ChangeSpec := { name := "fnMarked", fn := fun _ => fun
  | [d] => { results := [.lit (.bool false)], args := [d] }
  | _ => none }
def FnMarkedWrongFalsely : Prop := fnMarkedRow.holds Tryd.pinned (OpenSpec.ofChange fnMarkedWrong)

/- THE SECOND FORM. 'bulk': how many values and letters a reading holds, each counted each time it is reached (what is shared counts as often as it is met; a slice's spare places count too). A statement '..UptoSaid' is the law's where the arguments, and the package variables that the reading takes, are together of bulk at most 1048576: NARROWER than '..Said'. Prove '..Said' where nothing that the law and all that it calls make is longer than what came in: it says more and counts as full. Else prove '..UptoSaid'. A law counts once. -/
mutual
def uptoBulk {H : Type} : DataW H → Nat
  | .lit (.string bytes) => bytes.length + 1
  | .lit _ => 1
  | .nil => 1
  | .ptr d => uptoBulk d + 1
  | .slice elems spare => uptoBulkAll elems + uptoBulkAll spare + 1
  | .agg parts => uptoBulkAll parts + 1
  | .iface _ d => uptoBulk d + 1
  | .map entries => uptoBulkEntries entries + 1
  | .held _ => 1
def uptoBulkAll {H : Type} : List (DataW H) → Nat
  | [] => 0
  | d :: r => uptoBulk d + uptoBulkAll r
def uptoBulkEntries {H : Type} : List (Lit × DataW H) → Nat
  | [] => 0
  | x :: r => uptoBulkEntry x + uptoBulkEntries r
def uptoBulkEntry {H : Type} : Lit × DataW H → Nat
  | (.string bytes, d) => bytes.length + uptoBulk d + 1
  | (_, d) => uptoBulk d + 1
 end
def uptoSmall : (H : Type) → List (DataW H) → Bool := fun _ ds => decide (uptoBulkAll ds ≤ 1048576)
def OpenSpec.upto (s : _root_.Go.ChangeSpec) : _root_.Go.OpenSpec := { _root_.Go.OpenSpec.ofChange s with cond := some uptoSmall }

/-- 'laws.FnRope', WHERE WHAT IT READS IS OF BULK AT MOST 1048576: true; the input reads as it did. -/
def fnRopeUptoRow : OpenClaim := { program := "ytkghicadebeceaadoor", sum := "526a152a30fca352270f0d8940e9f13cb4e3db8b51715ac2781785f6a0a2f0cc", func := "loop.example/g00044/laws.FnRope", spec := "fnRope", inPlace := ["internal/bytealg.CountString", "internal/bytealg.IndexByteString", "internal/bytealg.IndexString", "internal/abi.NoEscape"], recurses := true, named := ["internal/bytealg.MaxLen", "unicode/utf8.first", "unicode/utf8.acceptRanges"], apart := false, laid := [("unicode/utf8.acceptRanges", laid_unicode_utf8_acceptRanges), ("unicode/utf8.first", laid_unicode_utf8_first)], narrowed := true }
def FnRopeUptoSaid : Prop := fnRopeUptoRow.holds Tryd.pinned (OpenSpec.upto fnRopeSpec)

/-- 'laws.FnExactWideOf', WHERE WHAT IT READS IS OF BULK AT MOST 1048576: true; the input reads as it did. -/
def fnExactWideOfUptoRow : OpenClaim := { program := "ytkghicadebeceaadoor", sum := "526a152a30fca352270f0d8940e9f13cb4e3db8b51715ac2781785f6a0a2f0cc", func := "loop.example/g00044/laws.FnExactWideOf", spec := "fnExactWideOf", unfollowed := true, recurses := true, named := ["unicode/utf8.first", "unicode/utf8.acceptRanges"], apart := false, laid := [("unicode/utf8.acceptRanges", laid_unicode_utf8_acceptRanges), ("unicode/utf8.first", laid_unicode_utf8_first)], narrowed := true }
def FnExactWideOfUptoSaid : Prop := fnExactWideOfUptoRow.holds Tryd.pinned (OpenSpec.upto fnExactWideOfSpec)

/-- 'laws.FnExactRopeFault', WHERE WHAT IT READS IS OF BULK AT MOST 1048576: true; the input reads as it did. -/
def fnExactRopeFaultUptoRow : OpenClaim := { program := "ytkghicadebeceaadoor", sum := "526a152a30fca352270f0d8940e9f13cb4e3db8b51715ac2781785f6a0a2f0cc", func := "loop.example/g00044/laws.FnExactRopeFault", spec := "fnExactRopeFault", inPlace := ["internal/abi.NoEscape", "internal/bytealg.CountString", "internal/bytealg.IndexByteString", "internal/bytealg.IndexString"], recurses := true, named := ["internal/bytealg.MaxLen", "unicode/utf8.first", "unicode/utf8.acceptRanges"], apart := false, laid := [("unicode/utf8.acceptRanges", laid_unicode_utf8_acceptRanges), ("unicode/utf8.first", laid_unicode_utf8_first)], narrowed := true }
def FnExactRopeFaultUptoSaid : Prop := fnExactRopeFaultUptoRow.holds Tryd.pinned (OpenSpec.upto fnExactRopeFaultSpec)

/-- 'laws.FnExactRopeText', WHERE WHAT IT READS IS OF BULK AT MOST 1048576: true; the input reads as it did. -/
def fnExactRopeTextUptoRow : OpenClaim := { program := "ytkghicadebeceaadoor", sum := "526a152a30fca352270f0d8940e9f13cb4e3db8b51715ac2781785f6a0a2f0cc", func := "loop.example/g00044/laws.FnExactRopeText", spec := "fnExactRopeText", inPlace := ["internal/abi.NoEscape", "internal/bytealg.CountString", "internal/bytealg.IndexByteString", "internal/bytealg.IndexString"], recurses := true, named := ["internal/bytealg.MaxLen", "unicode/utf8.first", "unicode/utf8.acceptRanges"], apart := false, laid := [("unicode/utf8.acceptRanges", laid_unicode_utf8_acceptRanges), ("unicode/utf8.first", laid_unicode_utf8_first)], narrowed := true }
def FnExactRopeTextUptoSaid : Prop := fnExactRopeTextUptoRow.holds Tryd.pinned (OpenSpec.upto fnExactRopeTextSpec)

/-- 'laws.FnExactLineAt', WHERE WHAT IT READS IS OF BULK AT MOST 1048576: true; the input reads as it did. -/
def fnExactLineAtUptoRow : OpenClaim := { program := "ytkghicadebeceaadoor", sum := "526a152a30fca352270f0d8940e9f13cb4e3db8b51715ac2781785f6a0a2f0cc", func := "loop.example/g00044/laws.FnExactLineAt", spec := "fnExactLineAt", inPlace := ["internal/abi.NoEscape", "internal/bytealg.CountString", "internal/bytealg.IndexByteString", "internal/bytealg.IndexString"], recurses := true, named := ["internal/bytealg.MaxLen", "unicode/utf8.first", "unicode/utf8.acceptRanges"], apart := false, laid := [("unicode/utf8.acceptRanges", laid_unicode_utf8_acceptRanges), ("unicode/utf8.first", laid_unicode_utf8_first)], narrowed := true }
def FnExactLineAtUptoSaid : Prop := fnExactLineAtUptoRow.holds Tryd.pinned (OpenSpec.upto fnExactLineAtSpec)

/-- 'laws.FnExactPiece', WHERE WHAT IT READS IS OF BULK AT MOST 1048576: true; the input reads as it did. -/
def fnExactPieceUptoRow : OpenClaim := { program := "ytkghicadebeceaadoor", sum := "526a152a30fca352270f0d8940e9f13cb4e3db8b51715ac2781785f6a0a2f0cc", func := "loop.example/g00044/laws.FnExactPiece", spec := "fnExactPiece", inPlace := ["internal/abi.NoEscape", "internal/bytealg.CountString", "internal/bytealg.IndexByteString", "internal/bytealg.IndexString"], recurses := true, named := ["internal/bytealg.MaxLen", "unicode/utf8.first", "unicode/utf8.acceptRanges"], apart := false, laid := [("unicode/utf8.acceptRanges", laid_unicode_utf8_acceptRanges), ("unicode/utf8.first", laid_unicode_utf8_first)], narrowed := true }
def FnExactPieceUptoSaid : Prop := fnExactPieceUptoRow.holds Tryd.pinned (OpenSpec.upto fnExactPieceSpec)

/-- 'laws.FnExactPlaceOfLine', WHERE WHAT IT READS IS OF BULK AT MOST 1048576: true; the input reads as it did. -/
def fnExactPlaceOfLineUptoRow : OpenClaim := { program := "ytkghicadebeceaadoor", sum := "526a152a30fca352270f0d8940e9f13cb4e3db8b51715ac2781785f6a0a2f0cc", func := "loop.example/g00044/laws.FnExactPlaceOfLine", spec := "fnExactPlaceOfLine", inPlace := ["internal/abi.NoEscape", "internal/bytealg.CountString", "internal/bytealg.IndexByteString", "internal/bytealg.IndexString"], recurses := true, named := ["internal/bytealg.MaxLen", "unicode/utf8.first", "unicode/utf8.acceptRanges"], apart := false, laid := [("unicode/utf8.acceptRanges", laid_unicode_utf8_acceptRanges), ("unicode/utf8.first", laid_unicode_utf8_first)], narrowed := true }
def FnExactPlaceOfLineUptoSaid : Prop := fnExactPlaceOfLineUptoRow.holds Tryd.pinned (OpenSpec.upto fnExactPlaceOfLineSpec)

/-- 'laws.FnExactEditRope', WHERE WHAT IT READS IS OF BULK AT MOST 1048576: true; the input reads as it did. -/
def fnExactEditRopeUptoRow : OpenClaim := { program := "ytkghicadebeceaadoor", sum := "526a152a30fca352270f0d8940e9f13cb4e3db8b51715ac2781785f6a0a2f0cc", func := "loop.example/g00044/laws.FnExactEditRope", spec := "fnExactEditRope", inPlace := ["internal/abi.NoEscape", "internal/bytealg.CountString", "internal/bytealg.IndexByteString", "internal/bytealg.IndexString"], recurses := true, named := ["internal/bytealg.MaxLen", "unicode/utf8.first", "unicode/utf8.acceptRanges"], apart := false, laid := [("unicode/utf8.acceptRanges", laid_unicode_utf8_acceptRanges), ("unicode/utf8.first", laid_unicode_utf8_first)], narrowed := true }
def FnExactEditRopeUptoSaid : Prop := fnExactEditRopeUptoRow.holds Tryd.pinned (OpenSpec.upto fnExactEditRopeSpec)

/-- 'laws.FnExactMarksAt', WHERE WHAT IT READS IS OF BULK AT MOST 1048576: true; the input reads as it did. -/
def fnExactMarksAtUptoRow : OpenClaim := { program := "ytkghicadebeceaadoor", sum := "526a152a30fca352270f0d8940e9f13cb4e3db8b51715ac2781785f6a0a2f0cc", func := "loop.example/g00044/laws.FnExactMarksAt", spec := "fnExactMarksAt", inPlace := ["internal/abi.NoEscape", "internal/bytealg.CountString", "internal/bytealg.IndexByteString", "internal/bytealg.IndexString"], unfollowed := true, recurses := true, named := ["internal/bytealg.MaxLen", "unicode/utf8.first", "unicode/utf8.acceptRanges"], apart := false, laid := [("unicode/utf8.acceptRanges", laid_unicode_utf8_acceptRanges), ("unicode/utf8.first", laid_unicode_utf8_first)], narrowed := true }
def FnExactMarksAtUptoSaid : Prop := fnExactMarksAtUptoRow.holds Tryd.pinned (OpenSpec.upto fnExactMarksAtSpec)

/-- 'laws.FnExactPutMark', WHERE WHAT IT READS IS OF BULK AT MOST 1048576: true; the input reads as it did. -/
def fnExactPutMarkUptoRow : OpenClaim := { program := "ytkghicadebeceaadoor", sum := "526a152a30fca352270f0d8940e9f13cb4e3db8b51715ac2781785f6a0a2f0cc", func := "loop.example/g00044/laws.FnExactPutMark", spec := "fnExactPutMark", inPlace := ["internal/abi.NoEscape", "internal/bytealg.CountString", "internal/bytealg.IndexByteString", "internal/bytealg.IndexString", "internal/bytealg.abigen_runtime_cmpstring"], unfollowed := true, recurses := true, named := ["internal/bytealg.MaxLen", "unicode/utf8.first", "unicode/utf8.acceptRanges"], apart := false, laid := [("unicode/utf8.acceptRanges", laid_unicode_utf8_acceptRanges), ("unicode/utf8.first", laid_unicode_utf8_first)], narrowed := true }
def FnExactPutMarkUptoSaid : Prop := fnExactPutMarkUptoRow.holds Tryd.pinned (OpenSpec.upto fnExactPutMarkSpec)

/-- 'laws.FnRopeEdits', WHERE WHAT IT READS IS OF BULK AT MOST 1048576: true; the input reads as it did. -/
def fnRopeEditsUptoRow : OpenClaim := { program := "ytkghicadebeceaadoor", sum := "526a152a30fca352270f0d8940e9f13cb4e3db8b51715ac2781785f6a0a2f0cc", func := "loop.example/g00044/laws.FnRopeEdits", spec := "fnRopeEdits", inPlace := ["internal/abi.NoEscape", "internal/bytealg.CountString", "internal/bytealg.IndexByteString", "internal/bytealg.IndexString"], recurses := true, named := ["internal/bytealg.MaxLen", "unicode/utf8.first", "unicode/utf8.acceptRanges"], apart := false, laid := [("unicode/utf8.acceptRanges", laid_unicode_utf8_acceptRanges), ("unicode/utf8.first", laid_unicode_utf8_first)], narrowed := true }
def FnRopeEditsUptoSaid : Prop := fnRopeEditsUptoRow.holds Tryd.pinned (OpenSpec.upto fnRopeEditsSpec)

/-- 'laws.FnMarked', WHERE WHAT IT READS IS OF BULK AT MOST 1048576: true; the input reads as it did. -/
def fnMarkedUptoRow : OpenClaim := { program := "ytkghicadebeceaadoor", sum := "526a152a30fca352270f0d8940e9f13cb4e3db8b51715ac2781785f6a0a2f0cc", func := "loop.example/g00044/laws.FnMarked", spec := "fnMarked", inPlace := ["internal/abi.NoEscape", "internal/bytealg.CountString", "internal/bytealg.IndexByteString", "internal/bytealg.IndexString", "internal/bytealg.abigen_runtime_cmpstring"], unfollowed := true, recurses := true, named := ["internal/bytealg.MaxLen", "unicode/utf8.first", "unicode/utf8.acceptRanges"], apart := false, laid := [("unicode/utf8.acceptRanges", laid_unicode_utf8_acceptRanges), ("unicode/utf8.first", laid_unicode_utf8_first)], narrowed := true }
def FnMarkedUptoSaid : Prop := fnMarkedUptoRow.holds Tryd.pinned (OpenSpec.upto fnMarkedSpec)

end Rows
end Go.Proofs.YtkghicadebeceaaDoor
