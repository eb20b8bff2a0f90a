/- strings.Repeat, as the kit's contract tells it. -/
import Derived.Test.YtlfkoenopdcjmaaDoorEG
import Derived.Lib.Repeat
namespace Go.Eng
set_option linter.unusedSectionVars false
set_option linter.unusedSimpArgs false
set_option linter.unusedVariables false
open Go.RowKit
variable [Glb]
noncomputable def xRepeat (vs : List V) (os : List O) : Option ByteArray := match vs with
  | [.str s, .int .i64 c] => if 0 ≤ c ∧ c ≤ 9223372036854775807 ∧ s.size * c.toNat ≤ 140737488355328 then some ⟨(Lib.repeatL s.data.toList c.toNat).toArray⟩ else none
  | _ => none
theorem xRepeat_ok {E : Env} {f : Nat} {fn : Func} {cd : Code} {vs : List V} {os : List O} {x : (E.sig f).T} {y : ByteArray} (hn : Named E.P) (hf : E.P.funcs[f]? = some fn) (hb : fn.body = some cd)
    (hinj : ∀ T, (E.sig f).inj x T = (.str y, [], [])) (hfin : (E.sig f).fin = []) (h : xRepeat vs os = some y)
    (hcall : ∀ (s : ByteArray) (c : Nat) (w : World), c ≤ 9223372036854775807 → s.size * c ≤ 140737488355328 → Calls E.P f #[.string s, .int .i64 c] w fun e w' => e = .returned (.string ⟨(Lib.repeatL s.data.toList c).toArray⟩) ∧ Below w.heap.size w w') : FnOkAt E f vs os x := by
  unfold xRepeat at h
  split at h
  · rename_i s c
    split at h
    · rename_i hc
      obtain ⟨h1, h2, h3⟩ := hc
      obtain rfl := Option.some.inj h
      refine calls_value_ok (c := .string ⟨(Lib.repeatL s.data.toList c.toNat).toArray⟩) hn hf hb hinj hfin rfl (fun w R loc => rfl) (fun w R loc args hg hv => ?_)
      obtain ⟨a, b, rfl, ha, hb'⟩ := hv.two
      obtain rfl : a = .string s := ha
      obtain rfl : b = .int .i64 c := hb'
      have := hcall s c.toNat w (by omega) h3
      rwa [Int.toNat_of_nonneg h1] at this
    · cases h
  · cases h
end Go.Eng
