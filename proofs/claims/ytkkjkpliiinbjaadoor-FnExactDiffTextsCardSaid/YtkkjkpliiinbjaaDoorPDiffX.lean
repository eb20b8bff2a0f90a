/- FnExactDiffTexts, plainly. -/
import Derived.Test.YtkkjkpliiinbjaaDoorPDiffB
namespace Go.Proofs.YtkkjkpliiinbjaaDoor.DI
open Go.Eng Go.RowKit
set_option linter.unusedVariables false
set_option linter.unusedSimpArgs false
theorem pure_FnExactDiffTexts (a b : ByteArray) (h1 : CT.good .str a) (h2 : CT.good .str b) : ∃ k, laws_FnExactDiffTexts k a b = some true := by
  have e := fun k => laws_FnExactDiffTexts.eq a b k
  simp only [W, W1, W3] at e
  refine Ev.has (Ev.step e ?_)
  by_cases c1 : (1048576 : Int) < (a.size : Int)
  · simp only [if_pos c1]; exact Ev.now _
  simp only [if_neg c1]
  by_cases c2 : (1048576 : Int) < (b.size : Int)
  · simp only [if_pos c2]; exact Ev.now _
  simp only [if_neg c2]
  have hl := diffT_len a b
  have hneg : ¬ (((1 + 4 * (diffT a b).length : Nat) : Int) < 0) := by omega
  refine Ev.bind (specDiff a b) (Ev.bind (implDiff a b) (Ev.bind (eqSteps _ (by omega)) ?_))
  simp only [W1]
  refine Ev.bind (markSteps _ (by omega)) (Ev.bind (heldSteps _ (by omega)) ?_)
  simp only [if_neg hneg, if_true]
  refine Ev.bind (implDiff a b) (Ev.bind (eqSteps _ (by omega)) ?_)
  simp only [W1]
  refine Ev.bind (heldSteps _ (by omega)) ?_
  simp only [if_neg hneg, if_true]
  exact Ev.now _
#print axioms pure_FnExactDiffTexts
end Go.Proofs.YtkkjkpliiinbjaaDoor.DI
