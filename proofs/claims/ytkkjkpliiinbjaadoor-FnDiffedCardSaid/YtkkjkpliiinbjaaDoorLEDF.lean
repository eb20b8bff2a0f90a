/- What the evaluator leans on at this program: functions without code, strings.Builder. -/
import Derived.ProofKit
import Derived.Test.YtkkjkpliiinbjaaDoorDDF
import Derived.Test.YtkkjkpliiinbjaaDoorU8
import Derived.Test.YtkkjkpliiinbjaaDoorEG
import Derived.Test.YtkkjkpliiinbjaaDoorJN
import Derived.Test.YtkkjkpliiinbjaaDoorEH
namespace Go.Proofs.YtkkjkpliiinbjaaDoor.DF
open Go.Eng Go.RowKit
set_option linter.unusedVariables false
set_option maxRecDepth 100000
theorem named : Named E.P := @named_of Glb.none _ (by kernel_rfl)
theorem mixed : E.P.follows .mixedOrders = true := by kernel_rfl
theorem bldOk (vv : Value) : @BldOk (glbA vv) E := by
  letI : Glb := glbA vv
  exact BldOk.none (fun _ => rfl) (fun _ => rfl)
theorem ext_ok (vv : Value) : @FnOk (glbA vv) E ext := by
  letI : Glb := glbA vv
  intro f vs os x h
  by_cases h28 : f = 28
  · subst h28; exact xJoin_ok (y := x) named Tryd.func28 rfl (fun T => rfl) rfl h (fun a c sep w => joins_none a c sep w) (fun bk o c xs sep w h1 h2 h3 h4 h5 => joins bk o c xs sep w h1 h2 h3 h4 h5)
  by_cases h85 : f = 85
  · subst h85; exact xDecodeRune_ok (y := x) named Tryd.func85 rfl (fun T => rfl) rfl h (fun s w hg => decodes s w hg)
  have hn : ext f vs os = none := by
    unfold ext
    rw [dif_neg h28, dif_neg h85]
  rw [hn] at h
  cases h
#print axioms ext_ok
#print axioms bldOk
end Go.Proofs.YtkkjkpliiinbjaaDoor.DF
