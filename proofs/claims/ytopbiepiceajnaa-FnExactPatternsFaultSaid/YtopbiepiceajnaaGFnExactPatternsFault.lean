/- What is known of the arguments of FnExactPatternsFault: that they can be read as data. -/
import Derived.Test.YtopbiepiceajnaaHx5
import Derived.Test.YtopbiepiceajnaaXOpen
namespace Go.Proofs.Ytopbiepiceajnaa.GFnExactPatternsFault
open Go.RowKit Go.Proofs.Ytopbiepiceajnaa.XOpen Go.Proofs.Ytopbiepiceajnaa.H Go.Proofs.YtopbiepiceajnaaW.PrintWords
set_option linter.unusedVariables false
/-- The plain statement. -/
def Pure : Prop := ∀ (l0 : List ByteArray), ((l0).length ≤ maxLen ∧ ∀ (i : Nat) a, (l0)[i]? = some a → (a).size ≤ maxLen) → ∃ k, laws_FnExactPatternsFault.f k l0 = some true
end Go.Proofs.Ytopbiepiceajnaa.GFnExactPatternsFault
