/- What the evaluator leans on at this program: functions without code, strings.Builder. -/
import Derived.ProofKit
import Derived.Test.YtkghicadebeceaaDoorDRG
import Derived.Test.YtkghicadebeceaaDoorU8
import Derived.Test.YtkghicadebeceaaDoorEG
import Derived.Test.YtkghicadebeceaaDoorBW
namespace Go.Proofs.YtkghicadebeceaaDoor.RG
open Go.Eng Go.RowKit
set_option linter.unusedVariables false
set_option maxRecDepth 100000
theorem named : Named E.P := named_of (by kernel_rfl)
theorem mixed : E.P.follows .mixedOrders = true := by kernel_rfl
theorem look_mem {d n v : Nat} : ∀ {l : List (Nat × Nat)}, lookN d n l = v → v ≠ d → (n, v) ∈ l
  | [], h, hv => absurd h.symm hv
  | (m, a) :: l, h, hv => by
    simp only [lookN] at h
    cases e : Nat.beq n m with
    | true => rw [e] at h; obtain rfl := Nat.eq_of_beq_eq_true e; have h : a = v := h; subst h; exact List.mem_cons_self
    | false => rw [e] at h; exact List.mem_cons_of_mem _ (look_mem h hv)
theorem bldOk (vv : Value) : @BldOk (glbA vv) E := by
  letI : Glb := glbA vv
  exact {
  ty := fun t h => by
    have h : Nat.beq t 125 = true := h
    obtain rfl := Nat.eq_of_beq_eq_true h
    exact ⟨rfl, by kernel_rfl⟩
  call := fun f n h args w => by
    have := look_mem (l := [(106, 1), (107, 3)]) (h : lookN 0 f _ = n + 1) (by omega)
    simp only [List.mem_cons, List.not_mem_nil, or_false, Prod.mk.injEq] at this
    rcases this with ⟨rfl, _⟩ | ⟨rfl, _⟩
    · exact enters_of Tryd.func106 (by kernel_rfl) rfl args w
    · exact enters_of Tryd.func107 (by kernel_rfl) rfl args w
  ws := fun f h b p v a s w hb hl => by
    have := look_mem (l := [(106, 1), (107, 3)]) (h : lookN 0 f _ = 1) (by omega)
    simp at this
    subst this
    exact BW.write b p v a s w hb hl
  wb := fun f h b p v a c w hb h1 h2 hl => by
    have := look_mem (l := [(106, 1), (107, 3)]) (h : lookN 0 f _ = 2) (by omega)
    simp at this
  str := fun f h b p v a w hb => by
    have := look_mem (l := [(106, 1), (107, 3)]) (h : lookN 0 f _ = 3) (by omega)
    simp at this
    subst this
    exact BW.str b p v a w hb
  len := fun f h b p v a w hb => by
    have := look_mem (l := [(106, 1), (107, 3)]) (h : lookN 0 f _ = 4) (by omega)
    simp at this }
theorem ext_ok (vv : Value) : @FnOk (glbA vv) E ext := by
  letI : Glb := glbA vv
  intro f vs os x h
  by_cases h79 : f = 79
  · subst h79
    exact xClone_ok (e := e_sib) (by_ := 32) (y := x) (bldOk vv) named mixed Tryd.func79 h (fun hy => (show evFn E (noExt E) 79 1 Tryd.f79 [.nil] [] = some ([] : List T_sib) from by kernel_rfl).trans (congrArg some hy.symm)) (fun xs hx => (show evFn E (noExt E) 79 1 Tryd.f79 [.rn e_sib xs] [] = chk (ltI (mulZ (addZ (ln ([] : List T_sib)) (ln xs)) 32) 140737488355328) (some (catL [] xs)) from by kernel_rfl).trans hx)
  by_cases h109 : f = 109
  · subst h109; exact xCountString_ok (fun T => rfl) rfl h Tryd.func109 (by kernel_rfl) (by kernel_rfl) (by kernel_rfl) (by kernel_rfl)
  by_cases h160 : f = 160
  · subst h160; exact xDecodeRune_ok (y := x) named Tryd.func160 rfl (fun T => rfl) rfl h (fun s w hg => decodes s w hg)
  by_cases h185 : f = 185
  · subst h185; exact xIndexByteString_ok (fun T => rfl) rfl h Tryd.func185 (by kernel_rfl) (by kernel_rfl) (by kernel_rfl) (by kernel_rfl)
  have hn : ext f vs os = none := by
    unfold ext
    rw [dif_neg h79, dif_neg h109, dif_neg h160, dif_neg h185]
  rw [hn] at h
  cases h
#print axioms ext_ok
#print axioms bldOk
end Go.Proofs.YtkghicadebeceaaDoor.RG
