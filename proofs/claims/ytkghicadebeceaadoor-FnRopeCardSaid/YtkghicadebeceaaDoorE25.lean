/- The evaluator is right. -/
import Derived.Test.YtkghicadebeceaaDoorE24
namespace Go.Eng
set_option linter.unusedSectionVars false
variable [Glb]
open Go.RowKit
set_option linter.unusedSimpArgs false
set_option linter.unusedVariables false

section
variable {E : Env} {ext : Cf E}
theorem evF_ok (hB : BldOk E) (hn : Named E.P) (hm : E.P.follows .mixedOrders = true) (hext : FnOk E ext) : ∀ k, FnOk E (evF E ext k)
  | 0 => hext
  | k + 1 => by
    intro f vs os x h
    have h : (bif E.over f then ext f vs os else match E.P.funcs[f]? with
      | some fn => match fn.body with
        | some _ => evFn E (evF E ext k) f k fn vs os
        | none => ext f vs os
      | none => none) = some x := h
    have hF := evF_ok hB hn hm hext k
    cases ho : E.over f with
    | true => rw [ho] at h; exact hext f vs os x h
    | false => ?_
    rw [ho] at h
    simp only [cond_false] at h
    split at h
    · rename_i fn hf
      split at h
      · exact evFn_ok hn (calls_ok hF hB) (draw_ok hm (calls_ok hF hB)) hf h
      · exact hext f vs os x h
    · cases h
/-- no function without code is answered for -/
noncomputable def noExt (E : Env) : Cf E := fun _ _ _ => none
theorem noExt_ok : FnOk E (noExt E) := fun f vs os x h => by cases h
/-- a call, seen from outside: nothing is lent -/
theorem evF_calls (hB : BldOk E) (hn : Named E.P) (hm : E.P.follows .mixedOrders = true) (hext : FnOk E ext) {k f : Nat} {vs : List V} {x : (E.sig f).T} (h : evF E ext k f vs [] = some x)
    {w : World} {R : Nat → Prop} {loc : Nat → Loc} {args : Array Value} (T : Nat) (hT : (E.sig f).fin.length ≤ T) (hg : Gl w R) (hR : ∀ b, R b → b < w.heap.size) (hv : RepL w R loc vs args.toList) :
    Ans E.P f args w (Left E f x w (fun _ => False) loc T w R) :=
  evF_ok hB hn hm hext k f vs [] x h w R (fun _ => False) loc (fun _ => none) args T w R hT hg (fun b hb => ⟨hg.2 b hb, rfl⟩) (fun b hb => ⟨hR b hb, fun h => h⟩) (fun b j h => by cases h) hv (fun j o h => by simp at h)
end
end Go.Eng
