/- What the evaluator leans on at this program: functions without code, strings.Builder. -/
import Derived.ProofKit
import Derived.Test.YtlfkoenopdcjmaaDoorDJF
import Derived.Test.YtlfkoenopdcjmaaDoorU8
import Derived.Test.YtlfkoenopdcjmaaDoorEG
import Derived.Test.YtlfkoenopdcjmaaDoorBW
import Derived.Test.YtlfkoenopdcjmaaDoorRP
import Derived.Test.YtlfkoenopdcjmaaDoorEH
namespace Go.Proofs.YtlfkoenopdcjmaaDoor.JF
open Go.Eng Go.RowKit
set_option linter.unusedVariables false
set_option maxRecDepth 100000
theorem named : Named E.P := named_of (by kernel_rfl)
theorem mixed : E.P.follows .mixedOrders = true := by kernel_rfl
theorem look_mem {d n v : Nat} : ∀ {l : List (Nat × Nat)}, lookN d n l = v → v ≠ d → (n, v) ∈ l
  | [], h, hv => absurd h.symm hv
  | (m, a) :: l, h, hv => by
    simp only [lookN] at h
    cases e : Nat.beq n m with
    | true => rw [e] at h; obtain rfl := Nat.eq_of_beq_eq_true e; have h : a = v := h; subst h; exact List.mem_cons_self
    | false => rw [e] at h; exact List.mem_cons_of_mem _ (look_mem h hv)
theorem bldOk (vv : Value) : @BldOk (glbA vv) E := by
  letI : Glb := glbA vv
  exact {
  ty := fun t h => by
    have h : Nat.beq t 53 = true := h
    obtain rfl := Nat.eq_of_beq_eq_true h
    exact ⟨rfl, by kernel_rfl⟩
  call := fun f n h args w => by
    have := look_mem (l := [(34, 1), (36, 3)]) (h : lookN 0 f _ = n + 1) (by omega)
    simp only [List.mem_cons, List.not_mem_nil, or_false, Prod.mk.injEq] at this
    rcases this with ⟨rfl, _⟩ | ⟨rfl, _⟩
    · exact enters_of Tryd.func34 (by kernel_rfl) rfl args w
    · exact enters_of Tryd.func36 (by kernel_rfl) rfl args w
  ws := fun f h b p v a s w hb hl => by
    have := look_mem (l := [(34, 1), (36, 3)]) (h : lookN 0 f _ = 1) (by omega)
    simp at this
    subst this
    exact BW.write b p v a s w hb hl
  wb := fun f h b p v a c w hb h1 h2 hl => by
    have := look_mem (l := [(34, 1), (36, 3)]) (h : lookN 0 f _ = 2) (by omega)
    simp at this
  str := fun f h b p v a w hb => by
    have := look_mem (l := [(34, 1), (36, 3)]) (h : lookN 0 f _ = 3) (by omega)
    simp at this
    subst this
    exact BW.str b p v a w hb
  len := fun f h b p v a w hb => by
    have := look_mem (l := [(34, 1), (36, 3)]) (h : lookN 0 f _ = 4) (by omega)
    simp at this }
theorem ext_ok (vv : Value) : @FnOk (glbA vv) E ext := by
  letI : Glb := glbA vv
  intro f vs os x h
  by_cases h27 : f = 27
  · subst h27; exact xRepeat_ok (y := x) named Tryd.func27 rfl (fun T => rfl) rfl h (fun s c w h1 h2 => repeats s c w h1 h2)
  by_cases h85 : f = 85
  · subst h85; exact xDecodeRune_ok (y := x) named Tryd.func85 rfl (fun T => rfl) rfl h (fun s w hg => decodes s w hg)
  by_cases h119 : f = 119
  · subst h119; exact xIndexByteString_ok (fun T => rfl) rfl h Tryd.func119 (by kernel_rfl) (by kernel_rfl) (by kernel_rfl) (by kernel_rfl)
  have hn : ext f vs os = none := by
    unfold ext
    rw [dif_neg h27, dif_neg h85, dif_neg h119]
  rw [hn] at h
  cases h
#print axioms ext_ok
#print axioms bldOk
end Go.Proofs.YtlfkoenopdcjmaaDoor.JF
