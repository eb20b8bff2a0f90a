/-
  NARROWER THAN 'FOR EVERY INPUT', by the rows' own cells (each row's printed sentence says how): FnExactIdFault: laid · FnExactMarksAt: laid · FnExactLookAlike: laid · FnExactSkeletonOf: laid.
  DERIVED. THE GIVEN ROWS OF THIS SEAT. 4 by the template 'for every input the law returns true; each argument reads behind the call as it read before'; 0 by the template 'total and deterministic' (their statements: YtmmmlfndnoeedaaDoorTotals.lean).
  GIVEN WITH THE SEED: the statements are not yours to turn. If you find one false, say at which input.
  Laid BY PROGRAM, IN A SANDBOX (cutbox-rows.mjs): the forced cells as the released guide's own fill.sh prints them over the translation 37aa61e6cd167bee… (all of the seat's roots in one cut). By AI agents, Wed Nov 11 2026. No macro, syntax, notation, axiom, sorry.
-/
import Derived.Test.YtmmmlfndnoeedaaDoorChecked
import GoSem.PinnedTables
import GoSem.Claim
import GoSem.ClaimJoined
import GoSem.ClaimMapViews
import Derived.JoinedTies
import Derived.KernelRfl
namespace Go.Proofs.YtmmmlfndnoeedaaDoor
/- THE CELL 'sum', in the pinned program and in every row, IS THE sha256 OF THE DUMP (.gsa) THAT YtmmmlfndnoeedaaDoorProg.lean LOADS. Nothing in Lean hashes anything: it is a label: what it is worth is what the hold of that sum in a sandbox is worth. -/
noncomputable def Tryd.pinned : Pinned := { name := "ytmmmlfndnoeedaadoor", sum := "37aa61e6cd167bee3dbc35dc39354590acbe89651f6a2de510b1adb59f0e6809", checked := Tryd.checked }
namespace Rows
def none {H : Type} : Left H := { results := [], args := [] }

/- WHAT THE LISTED PACKAGE-LEVEL VARIABLES READ AS WHEN THE CALL BEGINS. Each datum BY PROGRAM (the guide's laid-datum.mjs) off the statement by which the dump's own 'gosem.cut.vars' lays the variable. In a bare row this is a premise. The card (YtmmmlfndnoeedaaDoorCards.lean) ties it to the program's text. -/
def laid_unicode_utf8_acceptRanges {H : Type} : DataW H := .agg [.agg [.lit (.int .u8 128), .lit (.int .u8 191)], .agg [.lit (.int .u8 160), .lit (.int .u8 191)], .agg [.lit (.int .u8 128), .lit (.int .u8 159)], .agg [.lit (.int .u8 144), .lit (.int .u8 191)], .agg [.lit (.int .u8 128), .lit (.int .u8 143)], .agg [.lit (.int .u8 0), .lit (.int .u8 0)], .agg [.lit (.int .u8 0), .lit (.int .u8 0)], .agg [.lit (.int .u8 0), .lit (.int .u8 0)], .agg [.lit (.int .u8 0), .lit (.int .u8 0)], .agg [.lit (.int .u8 0), .lit (.int .u8 0)], .agg [.lit (.int .u8 0), .lit (.int .u8 0)], .agg [.lit (.int .u8 0), .lit (.int .u8 0)], .agg [.lit (.int .u8 0), .lit (.int .u8 0)], .agg [.lit (.int .u8 0), .lit (.int .u8 0)], .agg [.lit (.int .u8 0), .lit (.int .u8 0)], .agg [.lit (.int .u8 0), .lit (.int .u8 0)]]
/-- One of Go's own tables, pinned by name: the form's constant. -/
def laid_unicode_utf8_first : DataW Unit := Go.Pinned.utf8First
def laid_loop_example_g00044_impl_digitRows {H : Type} : DataW H := .slice [.lit (.int .i64 48), .lit (.int .i64 592), .lit (.int .i64 848), .lit (.int .i64 1104), .lit (.int .i64 1360), .lit (.int .i64 1616), .lit (.int .i64 10016)] []

/-- 'laws.FnExactIdFault': WHATEVER THE INPUT: true; the input reads as it did. -/
def fnExactIdFaultSpec : ChangeSpec := { name := "fnExactIdFault", fn := fun _ => fun
  | [d] => { results := [.lit (.bool true)], args := [d] }
  | _ => none }
def fnExactIdFaultRow : OpenClaim := { program := "ytmmmlfndnoeedaadoor", sum := "37aa61e6cd167bee3dbc35dc39354590acbe89651f6a2de510b1adb59f0e6809", func := "loop.example/g00044/laws.FnExactIdFault", spec := "fnExactIdFault", unfollowed := true, recurses := true, named := ["unicode/utf8.first", "unicode/utf8.acceptRanges"], apart := false, laid := [("unicode/utf8.acceptRanges", laid_unicode_utf8_acceptRanges), ("unicode/utf8.first", laid_unicode_utf8_first)] }
def FnExactIdFaultSaid : Prop := fnExactIdFaultRow.holds Tryd.pinned (OpenSpec.ofChange fnExactIdFaultSpec)

/-- ITS FALSE NEIGHBOUR: 'it returns false'. Refute it at one input. -/
def fnExactIdFaultWrong : ChangeSpec := { name := "fnExactIdFault", fn := fun _ => fun
  | [d] => { results := [.lit (.bool false)], args := [d] }
  | _ => none }
def FnExactIdFaultWrongFalsely : Prop := fnExactIdFaultRow.holds Tryd.pinned (OpenSpec.ofChange fnExactIdFaultWrong)

/-- 'laws.FnExactMarksAt': WHATEVER THE INPUT: true; the input reads as it did. -/
def fnExactMarksAtSpec : ChangeSpec := { name := "fnExactMarksAt", fn := fun _ => fun
  | [d1, d2, d3] => { results := [.lit (.bool true)], args := [d1, d2, d3] }
  | _ => none }
def fnExactMarksAtRow : OpenClaim := { program := "ytmmmlfndnoeedaadoor", sum := "37aa61e6cd167bee3dbc35dc39354590acbe89651f6a2de510b1adb59f0e6809", func := "loop.example/g00044/laws.FnExactMarksAt", spec := "fnExactMarksAt", inPlace := ["internal/abi.NoEscape", "internal/bytealg.CountString", "internal/bytealg.IndexByteString", "internal/bytealg.IndexString"], unfollowed := true, recurses := true, named := ["internal/bytealg.MaxLen", "unicode/utf8.first", "unicode/utf8.acceptRanges"], apart := false, laid := [("unicode/utf8.acceptRanges", laid_unicode_utf8_acceptRanges), ("unicode/utf8.first", laid_unicode_utf8_first)] }
def FnExactMarksAtSaid : Prop := fnExactMarksAtRow.holds Tryd.pinned (OpenSpec.ofChange fnExactMarksAtSpec)

/-- ITS FALSE NEIGHBOUR: 'it returns false'. Refute it at one input. -/
def fnExactMarksAtWrong : ChangeSpec := { name := "fnExactMarksAt", fn := fun _ => fun
  | [d1, d2, d3] => { results := [.lit (.bool false)], args := [d1, d2, d3] }
  | _ => none }
def FnExactMarksAtWrongFalsely : Prop := fnExactMarksAtRow.holds Tryd.pinned (OpenSpec.ofChange fnExactMarksAtWrong)

/-- 'laws.FnExactLookAlike': WHATEVER THE INPUT: true; the input reads as it did. -/
def fnExactLookAlikeSpec : ChangeSpec := { name := "fnExactLookAlike", vars := ["loop.example/g00044/impl.digitRows"], fn := fun _ => fun
  | [d1, d2, g1] => { results := [.lit (.bool true)], args := [d1, d2], vars := [g1] }
  | _ => none }
def fnExactLookAlikeRow : OpenClaim := { program := "ytmmmlfndnoeedaadoor", sum := "37aa61e6cd167bee3dbc35dc39354590acbe89651f6a2de510b1adb59f0e6809", func := "loop.example/g00044/laws.FnExactLookAlike", spec := "fnExactLookAlike", unfollowed := true, recurses := true, named := ["unicode/utf8.first", "unicode/utf8.acceptRanges", "loop.example/g00044/impl.digitRows"], apart := false, laid := [("unicode/utf8.acceptRanges", laid_unicode_utf8_acceptRanges), ("loop.example/g00044/impl.digitRows", laid_loop_example_g00044_impl_digitRows), ("unicode/utf8.first", laid_unicode_utf8_first)] }
def FnExactLookAlikeSaid : Prop := fnExactLookAlikeRow.holds Tryd.pinned (OpenSpec.ofChange fnExactLookAlikeSpec)

/-- ITS FALSE NEIGHBOUR: 'it returns false'. Refute it at one input. -/
def fnExactLookAlikeWrong : ChangeSpec := { name := "fnExactLookAlike", vars := ["loop.example/g00044/impl.digitRows"], fn := fun _ => fun
  | [d1, d2, g1] => { results := [.lit (.bool false)], args := [d1, d2], vars := [g1] }
  | _ => none }
def FnExactLookAlikeWrongFalsely : Prop := fnExactLookAlikeRow.holds Tryd.pinned (OpenSpec.ofChange fnExactLookAlikeWrong)

/-- 'laws.FnExactSkeletonOf': WHATEVER THE INPUT: true; the input reads as it did. -/
def fnExactSkeletonOfSpec : ChangeSpec := { name := "fnExactSkeletonOf", vars := ["loop.example/g00044/impl.digitRows"], fn := fun _ => fun
  | [d, g1] => { results := [.lit (.bool true)], args := [d], vars := [g1] }
  | _ => none }
def fnExactSkeletonOfRow : OpenClaim := { program := "ytmmmlfndnoeedaadoor", sum := "37aa61e6cd167bee3dbc35dc39354590acbe89651f6a2de510b1adb59f0e6809", func := "loop.example/g00044/laws.FnExactSkeletonOf", spec := "fnExactSkeletonOf", unfollowed := true, recurses := true, named := ["unicode/utf8.first", "unicode/utf8.acceptRanges", "loop.example/g00044/impl.digitRows"], apart := false, laid := [("unicode/utf8.acceptRanges", laid_unicode_utf8_acceptRanges), ("loop.example/g00044/impl.digitRows", laid_loop_example_g00044_impl_digitRows), ("unicode/utf8.first", laid_unicode_utf8_first)] }
def FnExactSkeletonOfSaid : Prop := fnExactSkeletonOfRow.holds Tryd.pinned (OpenSpec.ofChange fnExactSkeletonOfSpec)

/-- ITS FALSE NEIGHBOUR: 'it returns false'. Refute it at one input. -/
def fnExactSkeletonOfWrong : ChangeSpec := { name := "fnExactSkeletonOf", vars := ["loop.example/g00044/impl.digitRows"], fn := fun _ => fun
  | [d, g1] => { results := [.lit (.bool false)], args := [d], vars := [g1] }
  | _ => none }
def FnExactSkeletonOfWrongFalsely : Prop := fnExactSkeletonOfRow.holds Tryd.pinned (OpenSpec.ofChange fnExactSkeletonOfWrong)

/- THE SECOND FORM. 'bulk': how many values and letters a reading holds, each counted each time it is reached (what is shared counts as often as it is met; a slice's spare places count too). A statement '..UptoSaid' is the law's where the arguments, and the package variables that the reading takes, are together of bulk at most 1048576: NARROWER than '..Said'. Prove '..Said' where nothing that the law and all that it calls make is longer than what came in: it says more and counts as full. Else prove '..UptoSaid'. A law counts once. -/
mutual
def uptoBulk {H : Type} : DataW H → Nat
  | .lit (.string bytes) => bytes.length + 1
  | .lit _ => 1
  | .nil => 1
  | .ptr d => uptoBulk d + 1
  | .slice elems spare => uptoBulkAll elems + uptoBulkAll spare + 1
  | .agg parts => uptoBulkAll parts + 1
  | .iface _ d => uptoBulk d + 1
  | .map entries => uptoBulkEntries entries + 1
  | .held _ => 1
def uptoBulkAll {H : Type} : List (DataW H) → Nat
  | [] => 0
  | d :: r => uptoBulk d + uptoBulkAll r
def uptoBulkEntries {H : Type} : List (Lit × DataW H) → Nat
  | [] => 0
  | x :: r => uptoBulkEntry x + uptoBulkEntries r
def uptoBulkEntry {H : Type} : Lit × DataW H → Nat
  | (.string bytes, d) => bytes.length + uptoBulk d + 1
  | (_, d) => uptoBulk d + 1
 end
def uptoSmall : (H : Type) → List (DataW H) → Bool := fun _ ds => decide (uptoBulkAll ds ≤ 1048576)
def OpenSpec.upto (s : _root_.Go.ChangeSpec) : _root_.Go.OpenSpec := { _root_.Go.OpenSpec.ofChange s with cond := some uptoSmall }

/-- 'laws.FnExactIdFault', WHERE WHAT IT READS IS OF BULK AT MOST 1048576: true; the input reads as it did. -/
def fnExactIdFaultUptoRow : OpenClaim := { program := "ytmmmlfndnoeedaadoor", sum := "37aa61e6cd167bee3dbc35dc39354590acbe89651f6a2de510b1adb59f0e6809", func := "loop.example/g00044/laws.FnExactIdFault", spec := "fnExactIdFault", unfollowed := true, recurses := true, named := ["unicode/utf8.first", "unicode/utf8.acceptRanges"], apart := false, laid := [("unicode/utf8.acceptRanges", laid_unicode_utf8_acceptRanges), ("unicode/utf8.first", laid_unicode_utf8_first)], narrowed := true }
def FnExactIdFaultUptoSaid : Prop := fnExactIdFaultUptoRow.holds Tryd.pinned (OpenSpec.upto fnExactIdFaultSpec)

/-- 'laws.FnExactMarksAt', WHERE WHAT IT READS IS OF BULK AT MOST 1048576: true; the input reads as it did. -/
def fnExactMarksAtUptoRow : OpenClaim := { program := "ytmmmlfndnoeedaadoor", sum := "37aa61e6cd167bee3dbc35dc39354590acbe89651f6a2de510b1adb59f0e6809", func := "loop.example/g00044/laws.FnExactMarksAt", spec := "fnExactMarksAt", inPlace := ["internal/abi.NoEscape", "internal/bytealg.CountString", "internal/bytealg.IndexByteString", "internal/bytealg.IndexString"], unfollowed := true, recurses := true, named := ["internal/bytealg.MaxLen", "unicode/utf8.first", "unicode/utf8.acceptRanges"], apart := false, laid := [("unicode/utf8.acceptRanges", laid_unicode_utf8_acceptRanges), ("unicode/utf8.first", laid_unicode_utf8_first)], narrowed := true }
def FnExactMarksAtUptoSaid : Prop := fnExactMarksAtUptoRow.holds Tryd.pinned (OpenSpec.upto fnExactMarksAtSpec)

/-- 'laws.FnExactLookAlike', WHERE WHAT IT READS IS OF BULK AT MOST 1048576: true; the input reads as it did. -/
def fnExactLookAlikeUptoRow : OpenClaim := { program := "ytmmmlfndnoeedaadoor", sum := "37aa61e6cd167bee3dbc35dc39354590acbe89651f6a2de510b1adb59f0e6809", func := "loop.example/g00044/laws.FnExactLookAlike", spec := "fnExactLookAlike", unfollowed := true, recurses := true, named := ["unicode/utf8.first", "unicode/utf8.acceptRanges", "loop.example/g00044/impl.digitRows"], apart := false, laid := [("unicode/utf8.acceptRanges", laid_unicode_utf8_acceptRanges), ("loop.example/g00044/impl.digitRows", laid_loop_example_g00044_impl_digitRows), ("unicode/utf8.first", laid_unicode_utf8_first)], narrowed := true }
def FnExactLookAlikeUptoSaid : Prop := fnExactLookAlikeUptoRow.holds Tryd.pinned (OpenSpec.upto fnExactLookAlikeSpec)

/-- 'laws.FnExactSkeletonOf', WHERE WHAT IT READS IS OF BULK AT MOST 1048576: true; the input reads as it did. -/
def fnExactSkeletonOfUptoRow : OpenClaim := { program := "ytmmmlfndnoeedaadoor", sum := "37aa61e6cd167bee3dbc35dc39354590acbe89651f6a2de510b1adb59f0e6809", func := "loop.example/g00044/laws.FnExactSkeletonOf", spec := "fnExactSkeletonOf", unfollowed := true, recurses := true, named := ["unicode/utf8.first", "unicode/utf8.acceptRanges", "loop.example/g00044/impl.digitRows"], apart := false, laid := [("unicode/utf8.acceptRanges", laid_unicode_utf8_acceptRanges), ("loop.example/g00044/impl.digitRows", laid_loop_example_g00044_impl_digitRows), ("unicode/utf8.first", laid_unicode_utf8_first)], narrowed := true }
def FnExactSkeletonOfUptoSaid : Prop := fnExactSkeletonOfUptoRow.holds Tryd.pinned (OpenSpec.upto fnExactSkeletonOfSpec)

end Rows
end Go.Proofs.YtmmmlfndnoeedaaDoor
