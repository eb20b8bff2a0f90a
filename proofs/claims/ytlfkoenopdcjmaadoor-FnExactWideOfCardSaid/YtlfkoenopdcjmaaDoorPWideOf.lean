/- FnExactWideOf, plainly. -/
import Derived.Test.YtlfkoenopdcjmaaDoorPWideB
namespace Go.Proofs.YtlfkoenopdcjmaaDoor.WI
open Go.Eng Go.RowKit
set_option linter.unusedVariables false
set_option linter.unusedSimpArgs false
theorem pure_FnExactWideOf (t : ByteArray) (ht : CT.good .str t) : ∃ k, laws_FnExactWideOf k t = some true := by
  have e := fun k => laws_FnExactWideOf.eq t k
  simp only [W, W1, W3] at e
  refine Ev.has (Ev.step e ?_)
  by_cases c : (1048576 : Int) < (t.size : Int)
  · simp only [if_pos c]
    exact Ev.now _
  · simp only [if_neg c]
    refine Ev.bind (specWideOf t) (Ev.bind (implWideOf t) ?_)
    simp only [if_true]
    exact Ev.now _
#print axioms pure_FnExactWideOf
end Go.Proofs.YtlfkoenopdcjmaaDoor.WI
