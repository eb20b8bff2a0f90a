/- What the evaluator leans on at this program: functions without code, strings.Builder. -/
import Derived.ProofKit
import Derived.Test.YtmmmlfndnoeedaaDoorDID
import Derived.Test.YtmmmlfndnoeedaaDoorU8
import Derived.Test.YtmmmlfndnoeedaaDoorEG
import Derived.Test.YtmmmlfndnoeedaaDoorVS
import Derived.Test.YtmmmlfndnoeedaaDoorEH
namespace Go.Proofs.YtmmmlfndnoeedaaDoor.ID
open Go.Eng Go.RowKit
set_option linter.unusedVariables false
set_option maxRecDepth 100000
theorem named : Named E.P := @named_of Glb.none _ (by kernel_rfl)
theorem mixed : E.P.follows .mixedOrders = true := by kernel_rfl
theorem bldOk : BldOk E := BldOk.none (fun _ => rfl) (fun _ => rfl)
theorem ext_ok : FnOk E ext := by
  intro f vs os x h
  by_cases h59 : f = 59
  · subst h59; exact xValid_ok (y := x) named Tryd.func59 rfl (fun T => rfl) rfl h (fun s w hs hg => valids s w hs hg)
  by_cases h94 : f = 94
  · subst h94; exact xDecodeRune_ok (y := x) named Tryd.func94 rfl (fun T => rfl) rfl h (fun s w hg => decodes s w hg)
  have hn : ext f vs os = none := by
    unfold ext
    rw [dif_neg h59, dif_neg h94]
  rw [hn] at h
  cases h
#print axioms ext_ok
#print axioms bldOk
end Go.Proofs.YtmmmlfndnoeedaaDoor.ID
