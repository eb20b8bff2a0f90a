/-
  No cell of these rows narrows 'for every input' (looked for: loops, veiled, ifaces, maps, wideKeys, modest, calm, conditions, laid).
  DERIVED. THE GIVEN ROWS OF THIS SEAT. 9 by the template 'for every input the law returns true; each argument reads behind the call as it read before'; 0 by the template 'total and deterministic' (their statements: YtopbiepiceajnaaTotals.lean).
  GIVEN WITH THE SEED: the statements are not yours to turn. If you find one false, say at which input.
  Laid BY PROGRAM, IN A SANDBOX (cutbox-rows.mjs): the forced cells as the released guide's own fill.sh prints them over the translation 5b452c736ad4bdee… (all of the seat's roots in one cut). By AI agents, Wed Nov 11 2026. No macro, syntax, notation, axiom, sorry.
-/
import Derived.Test.YtopbiepiceajnaaChecked
import GoSem.Claim
import GoSem.ClaimJoined
import GoSem.ClaimMapViews
import Derived.JoinedTies
import Derived.KernelRfl
namespace Go.Proofs.Ytopbiepiceajnaa
/- THE CELL 'sum', in the pinned program and in every row, IS THE sha256 OF THE DUMP (.gsa) THAT YtopbiepiceajnaaProg.lean LOADS. Nothing in Lean hashes anything: it is a label: what it is worth is what the hold of that sum in a sandbox is worth. -/
noncomputable def Try.pinned : Pinned := { name := "ytopbiepiceajnaa", sum := "5b452c736ad4bdee0f063b1af887c5da693dcaa6b1f78a7705d36d40ff2f85bf", checked := Try.checked }
namespace Rows
def none {H : Type} : Left H := { results := [], args := [] }

/-- 'laws.FnExactHistoryFault': WHATEVER THE INPUT: true; the input reads as it did. -/
def fnExactHistoryFaultSpec : ChangeSpec := { name := "fnExactHistoryFault", fn := fun _ => fun
  | [d] => { results := [.lit (.bool true)], args := [d] }
  | _ => none }
def fnExactHistoryFaultRow : OpenClaim := { program := "ytopbiepiceajnaa", sum := "5b452c736ad4bdee0f063b1af887c5da693dcaa6b1f78a7705d36d40ff2f85bf", func := "loop.example/g00044/laws.FnExactHistoryFault", spec := "fnExactHistoryFault", apart := false }
def FnExactHistoryFaultSaid : Prop := fnExactHistoryFaultRow.holds Try.pinned (OpenSpec.ofChange fnExactHistoryFaultSpec)

/-- ITS FALSE NEIGHBOUR: 'it returns false'. Refute it at one input. -/
def fnExactHistoryFaultWrong : ChangeSpec := { name := "fnExactHistoryFault", fn := fun _ => fun
  | [d] => { results := [.lit (.bool false)], args := [d] }
  | _ => none }
def FnExactHistoryFaultWrongFalsely : Prop := fnExactHistoryFaultRow.holds Try.pinned (OpenSpec.ofChange fnExactHistoryFaultWrong)

/-- 'laws.FnExactTextAt': WHATEVER THE INPUT: true; the input reads as it did. -/
def fnExactTextAtSpec : ChangeSpec := { name := "fnExactTextAt", fn := fun _ => fun
  | [d1, d2] => { results := [.lit (.bool true)], args := [d1, d2] }
  | _ => none }
def fnExactTextAtRow : OpenClaim := { program := "ytopbiepiceajnaa", sum := "5b452c736ad4bdee0f063b1af887c5da693dcaa6b1f78a7705d36d40ff2f85bf", func := "loop.example/g00044/laws.FnExactTextAt", spec := "fnExactTextAt", apart := false }
def FnExactTextAtSaid : Prop := fnExactTextAtRow.holds Try.pinned (OpenSpec.ofChange fnExactTextAtSpec)

/-- ITS FALSE NEIGHBOUR: 'it returns false'. Refute it at one input. -/
def fnExactTextAtWrong : ChangeSpec := { name := "fnExactTextAt", fn := fun _ => fun
  | [d1, d2] => { results := [.lit (.bool false)], args := [d1, d2] }
  | _ => none }
def FnExactTextAtWrongFalsely : Prop := fnExactTextAtRow.holds Try.pinned (OpenSpec.ofChange fnExactTextAtWrong)

/-- 'laws.FnExactPatternsFault': WHATEVER THE INPUT: true; the input reads as it did. -/
def fnExactPatternsFaultSpec : ChangeSpec := { name := "fnExactPatternsFault", fn := fun _ => fun
  | [d] => { results := [.lit (.bool true)], args := [d] }
  | _ => none }
def fnExactPatternsFaultRow : OpenClaim := { program := "ytopbiepiceajnaa", sum := "5b452c736ad4bdee0f063b1af887c5da693dcaa6b1f78a7705d36d40ff2f85bf", func := "loop.example/g00044/laws.FnExactPatternsFault", spec := "fnExactPatternsFault", inPlace := ["internal/bytealg.IndexByteString", "internal/bytealg.IndexString"], named := ["internal/bytealg.MaxLen"], apart := false }
def FnExactPatternsFaultSaid : Prop := fnExactPatternsFaultRow.holds Try.pinned (OpenSpec.ofChange fnExactPatternsFaultSpec)

/-- ITS FALSE NEIGHBOUR: 'it returns false'. Refute it at one input. -/
def fnExactPatternsFaultWrong : ChangeSpec := { name := "fnExactPatternsFault", fn := fun _ => fun
  | [d] => { results := [.lit (.bool false)], args := [d] }
  | _ => none }
def FnExactPatternsFaultWrongFalsely : Prop := fnExactPatternsFaultRow.holds Try.pinned (OpenSpec.ofChange fnExactPatternsFaultWrong)

/-- 'laws.FnExactStyleFault': WHATEVER THE INPUT: true; the input reads as it did. -/
def fnExactStyleFaultSpec : ChangeSpec := { name := "fnExactStyleFault", fn := fun _ => fun
  | [d] => { results := [.lit (.bool true)], args := [d] }
  | _ => none }
def fnExactStyleFaultRow : OpenClaim := { program := "ytopbiepiceajnaa", sum := "5b452c736ad4bdee0f063b1af887c5da693dcaa6b1f78a7705d36d40ff2f85bf", func := "loop.example/g00044/laws.FnExactStyleFault", spec := "fnExactStyleFault", inPlace := ["internal/bytealg.IndexByteString", "internal/bytealg.IndexString"], named := ["internal/bytealg.MaxLen"], apart := false }
def FnExactStyleFaultSaid : Prop := fnExactStyleFaultRow.holds Try.pinned (OpenSpec.ofChange fnExactStyleFaultSpec)

/-- ITS FALSE NEIGHBOUR: 'it returns false'. Refute it at one input. -/
def fnExactStyleFaultWrong : ChangeSpec := { name := "fnExactStyleFault", fn := fun _ => fun
  | [d] => { results := [.lit (.bool false)], args := [d] }
  | _ => none }
def FnExactStyleFaultWrongFalsely : Prop := fnExactStyleFaultRow.holds Try.pinned (OpenSpec.ofChange fnExactStyleFaultWrong)

/-- 'laws.FnExactUndo': WHATEVER THE INPUT: true; the input reads as it did. -/
def fnExactUndoSpec : ChangeSpec := { name := "fnExactUndo", fn := fun _ => fun
  | [d] => { results := [.lit (.bool true)], args := [d] }
  | _ => none }
def fnExactUndoRow : OpenClaim := { program := "ytopbiepiceajnaa", sum := "5b452c736ad4bdee0f063b1af887c5da693dcaa6b1f78a7705d36d40ff2f85bf", func := "loop.example/g00044/laws.FnExactUndo", spec := "fnExactUndo", apart := false }
def FnExactUndoSaid : Prop := fnExactUndoRow.holds Try.pinned (OpenSpec.ofChange fnExactUndoSpec)

/-- ITS FALSE NEIGHBOUR: 'it returns false'. Refute it at one input. -/
def fnExactUndoWrong : ChangeSpec := { name := "fnExactUndo", fn := fun _ => fun
  | [d] => { results := [.lit (.bool false)], args := [d] }
  | _ => none }
def FnExactUndoWrongFalsely : Prop := fnExactUndoRow.holds Try.pinned (OpenSpec.ofChange fnExactUndoWrong)

/-- 'laws.FnExactRedo': WHATEVER THE INPUT: true; the input reads as it did. -/
def fnExactRedoSpec : ChangeSpec := { name := "fnExactRedo", fn := fun _ => fun
  | [d] => { results := [.lit (.bool true)], args := [d] }
  | _ => none }
def fnExactRedoRow : OpenClaim := { program := "ytopbiepiceajnaa", sum := "5b452c736ad4bdee0f063b1af887c5da693dcaa6b1f78a7705d36d40ff2f85bf", func := "loop.example/g00044/laws.FnExactRedo", spec := "fnExactRedo", apart := false }
def FnExactRedoSaid : Prop := fnExactRedoRow.holds Try.pinned (OpenSpec.ofChange fnExactRedoSpec)

/-- ITS FALSE NEIGHBOUR: 'it returns false'. Refute it at one input. -/
def fnExactRedoWrong : ChangeSpec := { name := "fnExactRedo", fn := fun _ => fun
  | [d] => { results := [.lit (.bool false)], args := [d] }
  | _ => none }
def FnExactRedoWrongFalsely : Prop := fnExactRedoRow.holds Try.pinned (OpenSpec.ofChange fnExactRedoWrong)

/-- 'laws.FnExactDoStep': WHATEVER THE INPUT: true; the input reads as it did. -/
def fnExactDoStepSpec : ChangeSpec := { name := "fnExactDoStep", fn := fun _ => fun
  | [d1, d2, d3, d4, d5] => { results := [.lit (.bool true)], args := [d1, d2, d3, d4, d5] }
  | _ => none }
def fnExactDoStepRow : OpenClaim := { program := "ytopbiepiceajnaa", sum := "5b452c736ad4bdee0f063b1af887c5da693dcaa6b1f78a7705d36d40ff2f85bf", func := "loop.example/g00044/laws.FnExactDoStep", spec := "fnExactDoStep", apart := false }
def FnExactDoStepSaid : Prop := fnExactDoStepRow.holds Try.pinned (OpenSpec.ofChange fnExactDoStepSpec)

/-- ITS FALSE NEIGHBOUR: 'it returns false'. Refute it at one input. -/
def fnExactDoStepWrong : ChangeSpec := { name := "fnExactDoStep", fn := fun _ => fun
  | [d1, d2, d3, d4, d5] => { results := [.lit (.bool false)], args := [d1, d2, d3, d4, d5] }
  | _ => none }
def FnExactDoStepWrongFalsely : Prop := fnExactDoStepRow.holds Try.pinned (OpenSpec.ofChange fnExactDoStepWrong)

/-- 'laws.FnExactHyphensOf': WHATEVER THE INPUT: true; the input reads as it did. -/
def fnExactHyphensOfSpec : ChangeSpec := { name := "fnExactHyphensOf", fn := fun _ => fun
  | [d1, d2] => { results := [.lit (.bool true)], args := [d1, d2] }
  | _ => none }
def fnExactHyphensOfRow : OpenClaim := { program := "ytopbiepiceajnaa", sum := "5b452c736ad4bdee0f063b1af887c5da693dcaa6b1f78a7705d36d40ff2f85bf", func := "loop.example/g00044/laws.FnExactHyphensOf", spec := "fnExactHyphensOf", inPlace := ["internal/bytealg.IndexByteString", "internal/bytealg.IndexString"], named := ["internal/bytealg.MaxLen"], apart := false }
def FnExactHyphensOfSaid : Prop := fnExactHyphensOfRow.holds Try.pinned (OpenSpec.ofChange fnExactHyphensOfSpec)

/-- ITS FALSE NEIGHBOUR: 'it returns false'. Refute it at one input. -/
def fnExactHyphensOfWrong : ChangeSpec := { name := "fnExactHyphensOf", fn := fun _ => fun
  | [d1, d2] => { results := [.lit (.bool false)], args := [d1, d2] }
  | _ => none }
def FnExactHyphensOfWrongFalsely : Prop := fnExactHyphensOfRow.holds Try.pinned (OpenSpec.ofChange fnExactHyphensOfWrong)

/-- 'laws.FnUndone': WHATEVER THE INPUT: true; the input reads as it did. -/
def fnUndoneSpec : ChangeSpec := { name := "fnUndone", fn := fun _ => fun
  | [d] => { results := [.lit (.bool true)], args := [d] }
  | _ => none }
def fnUndoneRow : OpenClaim := { program := "ytopbiepiceajnaa", sum := "5b452c736ad4bdee0f063b1af887c5da693dcaa6b1f78a7705d36d40ff2f85bf", func := "loop.example/g00044/laws.FnUndone", spec := "fnUndone", apart := false }
def FnUndoneSaid : Prop := fnUndoneRow.holds Try.pinned (OpenSpec.ofChange fnUndoneSpec)

/-- ITS FALSE NEIGHBOUR: 'it returns false'. Refute it at one input. -/
def fnUndoneWrong : ChangeSpec := { name := "fnUndone", fn := fun _ => fun
  | [d] => { results := [.lit (.bool false)], args := [d] }
  | _ => none }
def FnUndoneWrongFalsely : Prop := fnUndoneRow.holds Try.pinned (OpenSpec.ofChange fnUndoneWrong)

/- THE SECOND FORM. 'bulk': how many values and letters a reading holds, each counted each time it is reached (what is shared counts as often as it is met; a slice's spare places count too). A statement '..UptoSaid' is the law's where the arguments, and the package variables that the reading takes, are together of bulk at most 1048576: NARROWER than '..Said'. Prove '..Said' where nothing that the law and all that it calls make is longer than what came in: it says more and counts as full. Else prove '..UptoSaid'. A law counts once. -/
mutual
def uptoBulk {H : Type} : DataW H → Nat
  | .lit (.string bytes) => bytes.length + 1
  | .lit _ => 1
  | .nil => 1
  | .ptr d => uptoBulk d + 1
  | .slice elems spare => uptoBulkAll elems + uptoBulkAll spare + 1
  | .agg parts => uptoBulkAll parts + 1
  | .iface _ d => uptoBulk d + 1
  | .map entries => uptoBulkEntries entries + 1
  | .held _ => 1
def uptoBulkAll {H : Type} : List (DataW H) → Nat
  | [] => 0
  | d :: r => uptoBulk d + uptoBulkAll r
def uptoBulkEntries {H : Type} : List (Lit × DataW H) → Nat
  | [] => 0
  | x :: r => uptoBulkEntry x + uptoBulkEntries r
def uptoBulkEntry {H : Type} : Lit × DataW H → Nat
  | (.string bytes, d) => bytes.length + uptoBulk d + 1
  | (_, d) => uptoBulk d + 1
 end
def uptoSmall : (H : Type) → List (DataW H) → Bool := fun _ ds => decide (uptoBulkAll ds ≤ 1048576)
def OpenSpec.upto (s : _root_.Go.ChangeSpec) : _root_.Go.OpenSpec := { _root_.Go.OpenSpec.ofChange s with cond := some uptoSmall }

/-- 'laws.FnExactHistoryFault', WHERE WHAT IT READS IS OF BULK AT MOST 1048576: true; the input reads as it did. -/
def fnExactHistoryFaultUptoRow : OpenClaim := { program := "ytopbiepiceajnaa", sum := "5b452c736ad4bdee0f063b1af887c5da693dcaa6b1f78a7705d36d40ff2f85bf", func := "loop.example/g00044/laws.FnExactHistoryFault", spec := "fnExactHistoryFault", apart := false, narrowed := true }
def FnExactHistoryFaultUptoSaid : Prop := fnExactHistoryFaultUptoRow.holds Try.pinned (OpenSpec.upto fnExactHistoryFaultSpec)

/-- 'laws.FnExactTextAt', WHERE WHAT IT READS IS OF BULK AT MOST 1048576: true; the input reads as it did. -/
def fnExactTextAtUptoRow : OpenClaim := { program := "ytopbiepiceajnaa", sum := "5b452c736ad4bdee0f063b1af887c5da693dcaa6b1f78a7705d36d40ff2f85bf", func := "loop.example/g00044/laws.FnExactTextAt", spec := "fnExactTextAt", apart := false, narrowed := true }
def FnExactTextAtUptoSaid : Prop := fnExactTextAtUptoRow.holds Try.pinned (OpenSpec.upto fnExactTextAtSpec)

/-- 'laws.FnExactPatternsFault', WHERE WHAT IT READS IS OF BULK AT MOST 1048576: true; the input reads as it did. -/
def fnExactPatternsFaultUptoRow : OpenClaim := { program := "ytopbiepiceajnaa", sum := "5b452c736ad4bdee0f063b1af887c5da693dcaa6b1f78a7705d36d40ff2f85bf", func := "loop.example/g00044/laws.FnExactPatternsFault", spec := "fnExactPatternsFault", inPlace := ["internal/bytealg.IndexByteString", "internal/bytealg.IndexString"], named := ["internal/bytealg.MaxLen"], apart := false, narrowed := true }
def FnExactPatternsFaultUptoSaid : Prop := fnExactPatternsFaultUptoRow.holds Try.pinned (OpenSpec.upto fnExactPatternsFaultSpec)

/-- 'laws.FnExactStyleFault', WHERE WHAT IT READS IS OF BULK AT MOST 1048576: true; the input reads as it did. -/
def fnExactStyleFaultUptoRow : OpenClaim := { program := "ytopbiepiceajnaa", sum := "5b452c736ad4bdee0f063b1af887c5da693dcaa6b1f78a7705d36d40ff2f85bf", func := "loop.example/g00044/laws.FnExactStyleFault", spec := "fnExactStyleFault", inPlace := ["internal/bytealg.IndexByteString", "internal/bytealg.IndexString"], named := ["internal/bytealg.MaxLen"], apart := false, narrowed := true }
def FnExactStyleFaultUptoSaid : Prop := fnExactStyleFaultUptoRow.holds Try.pinned (OpenSpec.upto fnExactStyleFaultSpec)

/-- 'laws.FnExactUndo', WHERE WHAT IT READS IS OF BULK AT MOST 1048576: true; the input reads as it did. -/
def fnExactUndoUptoRow : OpenClaim := { program := "ytopbiepiceajnaa", sum := "5b452c736ad4bdee0f063b1af887c5da693dcaa6b1f78a7705d36d40ff2f85bf", func := "loop.example/g00044/laws.FnExactUndo", spec := "fnExactUndo", apart := false, narrowed := true }
def FnExactUndoUptoSaid : Prop := fnExactUndoUptoRow.holds Try.pinned (OpenSpec.upto fnExactUndoSpec)

/-- 'laws.FnExactRedo', WHERE WHAT IT READS IS OF BULK AT MOST 1048576: true; the input reads as it did. -/
def fnExactRedoUptoRow : OpenClaim := { program := "ytopbiepiceajnaa", sum := "5b452c736ad4bdee0f063b1af887c5da693dcaa6b1f78a7705d36d40ff2f85bf", func := "loop.example/g00044/laws.FnExactRedo", spec := "fnExactRedo", apart := false, narrowed := true }
def FnExactRedoUptoSaid : Prop := fnExactRedoUptoRow.holds Try.pinned (OpenSpec.upto fnExactRedoSpec)

/-- 'laws.FnExactDoStep', WHERE WHAT IT READS IS OF BULK AT MOST 1048576: true; the input reads as it did. -/
def fnExactDoStepUptoRow : OpenClaim := { program := "ytopbiepiceajnaa", sum := "5b452c736ad4bdee0f063b1af887c5da693dcaa6b1f78a7705d36d40ff2f85bf", func := "loop.example/g00044/laws.FnExactDoStep", spec := "fnExactDoStep", apart := false, narrowed := true }
def FnExactDoStepUptoSaid : Prop := fnExactDoStepUptoRow.holds Try.pinned (OpenSpec.upto fnExactDoStepSpec)

/-- 'laws.FnExactHyphensOf', WHERE WHAT IT READS IS OF BULK AT MOST 1048576: true; the input reads as it did. -/
def fnExactHyphensOfUptoRow : OpenClaim := { program := "ytopbiepiceajnaa", sum := "5b452c736ad4bdee0f063b1af887c5da693dcaa6b1f78a7705d36d40ff2f85bf", func := "loop.example/g00044/laws.FnExactHyphensOf", spec := "fnExactHyphensOf", inPlace := ["internal/bytealg.IndexByteString", "internal/bytealg.IndexString"], named := ["internal/bytealg.MaxLen"], apart := false, narrowed := true }
def FnExactHyphensOfUptoSaid : Prop := fnExactHyphensOfUptoRow.holds Try.pinned (OpenSpec.upto fnExactHyphensOfSpec)

/-- 'laws.FnUndone', WHERE WHAT IT READS IS OF BULK AT MOST 1048576: true; the input reads as it did. -/
def fnUndoneUptoRow : OpenClaim := { program := "ytopbiepiceajnaa", sum := "5b452c736ad4bdee0f063b1af887c5da693dcaa6b1f78a7705d36d40ff2f85bf", func := "loop.example/g00044/laws.FnUndone", spec := "fnUndone", apart := false, narrowed := true }
def FnUndoneUptoSaid : Prop := fnUndoneUptoRow.holds Try.pinned (OpenSpec.upto fnUndoneSpec)

end Rows
end Go.Proofs.Ytopbiepiceajnaa
