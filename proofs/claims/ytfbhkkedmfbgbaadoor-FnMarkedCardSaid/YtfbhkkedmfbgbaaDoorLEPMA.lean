/- What the evaluator leans on at this program: functions without code, strings.Builder. -/
import Derived.ProofKit
import Derived.Test.YtfbhkkedmfbgbaaDoorDPM
import Derived.Test.YtfbhkkedmfbgbaaDoorU8
import Derived.Test.YtfbhkkedmfbgbaaDoorEG
import Derived.Test.YtfbhkkedmfbgbaaDoorBW
import Derived.Test.YtfbhkkedmfbgbaaDoorSF
namespace Go.Proofs.YtfbhkkedmfbgbaaDoor.PM
open Go.Eng Go.RowKit
set_option linter.unusedVariables false
set_option maxRecDepth 100000
@[reducible] def glbA (v : Value) : Glb := Glb.utf8A 1 2 91 5 v
theorem named : Named E.P := @named_of Glb.none _ (by kernel_rfl)
theorem mixed : E.P.follows .mixedOrders = true := by kernel_rfl
theorem look_mem {d n v : Nat} : ∀ {l : List (Nat × Nat)}, lookN d n l = v → v ≠ d → (n, v) ∈ l
  | [], h, hv => absurd h.symm hv
  | (m, a) :: l, h, hv => by
    simp only [lookN] at h
    cases e : Nat.beq n m with
    | true => rw [e] at h; obtain rfl := Nat.eq_of_beq_eq_true e; have h : a = v := h; subst h; exact List.mem_cons_self
    | false => rw [e] at h; exact List.mem_cons_of_mem _ (look_mem h hv)
theorem bldOk (vv : Value) : @BldOk (glbA vv) E := by
  letI : Glb := glbA vv
  exact {
  ty := fun t h => by
    have h : Nat.beq t 91 = true := h
    obtain rfl := Nat.eq_of_beq_eq_true h
    exact ⟨rfl, by kernel_rfl⟩
  call := fun f n h args w => by
    have := look_mem (l := [(59, 1), (60, 3)]) (h : lookN 0 f _ = n + 1) (by omega)
    simp only [List.mem_cons, List.not_mem_nil, or_false, Prod.mk.injEq] at this
    rcases this with ⟨rfl, _⟩ | ⟨rfl, _⟩
    · exact enters_of Tryd.func59 (by kernel_rfl) rfl args w
    · exact enters_of Tryd.func60 (by kernel_rfl) rfl args w
  ws := fun f h b p v a s w hb hl => by
    have := look_mem (l := [(59, 1), (60, 3)]) (h : lookN 0 f _ = 1) (by omega)
    simp at this
    subst this
    exact BW.write b p v a s w hb hl
  wb := fun f h b p v a c w hb h1 h2 hl => by
    have := look_mem (l := [(59, 1), (60, 3)]) (h : lookN 0 f _ = 2) (by omega)
    simp at this
  str := fun f h b p v a w hb => by
    have := look_mem (l := [(59, 1), (60, 3)]) (h : lookN 0 f _ = 3) (by omega)
    simp at this
    subst this
    exact BW.str b p v a w hb
  len := fun f h b p v a w hb => by
    have := look_mem (l := [(59, 1), (60, 3)]) (h : lookN 0 f _ = 4) (by omega)
    simp at this }
theorem ext_ok (vv : Value) : @FnOk (glbA vv) E ext := by
  letI : Glb := glbA vv
  intro f vs os x h
  by_cases h31 : f = 31
  · subst h31
    exact xClone_ok (e := e_sib) (by_ := 32) (y := x) (bldOk vv) named mixed Tryd.func31 h (fun hy => (show evFn E (noExt E) 31 1 Tryd.f31 [.nil] [] = some ([] : List T_sib) from by kernel_rfl).trans (congrArg some hy.symm)) (fun xs hx => (show evFn E (noExt E) 31 1 Tryd.f31 [.rn e_sib xs] [] = chk (ltI (mulZ (addZ (ln ([] : List T_sib)) (ln xs)) 32) 140737488355328) (some (catL [] xs)) from by kernel_rfl).trans hx)
  by_cases h33 : f = 33
  · subst h33; exact xSortF_ok (e := e_sib) (cf := cmpN) (y := x) swoM rfl sortEnters (fun T => rfl) rfl h sorts
  by_cases h36 : f = 36
  · subst h36
    exact xClone_ok (e := e_siiii) (by_ := 48) (y := x) (bldOk vv) named mixed Tryd.func36 h (fun hy => (show evFn E (noExt E) 36 1 Tryd.f36 [.nil] [] = some ([] : List T_siiii) from by kernel_rfl).trans (congrArg some hy.symm)) (fun xs hx => (show evFn E (noExt E) 36 1 Tryd.f36 [.rn e_siiii xs] [] = chk (ltI (mulZ (addZ (ln ([] : List T_siiii)) (ln xs)) 48) 140737488355328) (some (catL [] xs)) from by kernel_rfl).trans hx)
  by_cases h106 : f = 106
  · subst h106; exact xCountString_ok (fun T => rfl) rfl h Tryd.func106 (by kernel_rfl) (by kernel_rfl) (by kernel_rfl) (by kernel_rfl)
  by_cases h108 : f = 108
  · subst h108; exact xDecodeRune_ok (y := x) named Tryd.func108 rfl (fun T => rfl) rfl h (fun s w hg => decodes s w hg)
  by_cases h118 : f = 118
  · subst h118; exact xIndexByteString_ok (fun T => rfl) rfl h Tryd.func118 (by kernel_rfl) (by kernel_rfl) (by kernel_rfl) (by kernel_rfl)
  have hn : ext f vs os = none := by
    unfold ext
    rw [dif_neg h31, dif_neg h33, dif_neg h36, dif_neg h106, dif_neg h108, dif_neg h118]
  rw [hn] at h
  cases h
#print axioms ext_ok
#print axioms bldOk
end Go.Proofs.YtfbhkkedmfbgbaaDoor.PM
