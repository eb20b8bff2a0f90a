/- What the evaluator leans on at this program: functions without code, strings.Builder. -/
import Derived.ProofKit
import Derived.Test.YtmmmlfndnoeedaaDoorDIX
import Derived.Test.YtmmmlfndnoeedaaDoorU8
import Derived.Test.YtmmmlfndnoeedaaDoorEG
import Derived.Test.YtmmmlfndnoeedaaDoorEV
namespace Go.Proofs.YtmmmlfndnoeedaaDoor.IX
open Go.Eng Go.RowKit
set_option linter.unusedVariables false
set_option maxRecDepth 100000
@[reducible] def glbV (v : Value) : Glb := Glb.utf8V 0 1 113 5 2 e_i rfl ([48, 592, 848, 1104, 1360, 1616, 10016] : List Int) v
theorem named : Named E.P := @named_of Glb.none _ (by kernel_rfl)
theorem mixed : E.P.follows .mixedOrders = true := by kernel_rfl
theorem gvOk (vv : Value) : @GvOk (glbV vv) E := by
  letI : Glb := glbV vv
  intro g v h w0 w R loc hgl hgi
  have h : (bif Nat.beq g 2 then some (V.rc 1 e_i ([48, 592, 848, 1104, 1360, 1616, 10016] : List Int)) else none) = some v := h
  cases e : Nat.beq g 2 with
  | false => rw [e] at h; cases h
  | true =>
    rw [e] at h
    obtain rfl := Option.some.inj h
    obtain rfl := Nat.eq_of_beq_eq_true e
    obtain ⟨cs, ty, fz, h1, h2⟩ := hgi.2.1
    exact ⟨cs, ty, fz, vv, h1, h2, rfl, rfl, hgl.1.2.cell rfl fun ad l c h3 h4 => ⟨hgl.2 _ (.inr ⟨ad, l, c, h3, h4, rfl⟩), rfl⟩⟩
theorem bldOk (vv : Value) : @BldOk (glbV vv) E := by
  letI : Glb := glbV vv
  exact BldOk.none (fun _ => rfl) (fun _ => rfl) (gvOk vv)
theorem ext_ok (vv : Value) : @FnOk (glbV vv) E ext := by
  letI : Glb := glbV vv
  intro f vs os x h
  by_cases h94 : f = 94
  · subst h94; exact xDecodeRune_ok (y := x) named Tryd.func94 rfl (fun T => rfl) rfl h (fun s w hg => decodes s w hg.1)
  have hn : ext f vs os = none := by
    unfold ext
    rw [dif_neg h94]
  rw [hn] at h
  cases h
#print axioms ext_ok
#print axioms bldOk
end Go.Proofs.YtmmmlfndnoeedaaDoor.IX
