/- What the evaluator leans on at this program: functions without code, strings.Builder. -/
import Derived.ProofKit
import Derived.Test.YtmmmlfndnoeedaaDoorDNM
import Derived.Test.YtmmmlfndnoeedaaDoorU8
import Derived.Test.YtmmmlfndnoeedaaDoorEG
import Derived.Test.YtmmmlfndnoeedaaDoorBW
import Derived.Test.YtmmmlfndnoeedaaDoorVS
import Derived.Test.YtmmmlfndnoeedaaDoorEH
namespace Go.Proofs.YtmmmlfndnoeedaaDoor.NM
open Go.Eng Go.RowKit
set_option linter.unusedVariables false
set_option maxRecDepth 100000
theorem named : Named E.P := @named_of Glb.none _ (by kernel_rfl)
theorem mixed : E.P.follows .mixedOrders = true := by kernel_rfl
theorem look_mem {d n v : Nat} : ∀ {l : List (Nat × Nat)}, lookN d n l = v → v ≠ d → (n, v) ∈ l
  | [], h, hv => absurd h.symm hv
  | (m, a) :: l, h, hv => by
    simp only [lookN] at h
    cases e : Nat.beq n m with
    | true => rw [e] at h; obtain rfl := Nat.eq_of_beq_eq_true e; have h : a = v := h; subst h; exact List.mem_cons_self
    | false => rw [e] at h; exact List.mem_cons_of_mem _ (look_mem h hv)
theorem bldOk : BldOk E where
  ty := fun t h => by
    have h : Nat.beq t 113 = true := h
    obtain rfl := Nat.eq_of_beq_eq_true h
    exact ⟨rfl, by kernel_rfl⟩
  call := fun f n h args w => by
    have := look_mem (l := [(99, 1), (100, 3)]) (h : lookN 0 f _ = n + 1) (by omega)
    simp only [List.mem_cons, List.not_mem_nil, or_false, Prod.mk.injEq] at this
    rcases this with ⟨rfl, _⟩ | ⟨rfl, _⟩
    · exact enters_of Tryd.func99 (by kernel_rfl) rfl args w
    · exact enters_of Tryd.func100 (by kernel_rfl) rfl args w
  ws := fun f h b p v a s w hb hl => by
    have := look_mem (l := [(99, 1), (100, 3)]) (h : lookN 0 f _ = 1) (by omega)
    simp at this
    subst this
    exact BW.write b p v a s w hb hl
  wb := fun f h b p v a c w hb h1 h2 hl => by
    have := look_mem (l := [(99, 1), (100, 3)]) (h : lookN 0 f _ = 2) (by omega)
    simp at this
  str := fun f h b p v a w hb => by
    have := look_mem (l := [(99, 1), (100, 3)]) (h : lookN 0 f _ = 3) (by omega)
    simp at this
    subst this
    exact BW.str b p v a w hb
  len := fun f h b p v a w hb => by
    have := look_mem (l := [(99, 1), (100, 3)]) (h : lookN 0 f _ = 4) (by omega)
    simp at this
theorem ext_ok : FnOk E ext := by
  intro f vs os x h
  by_cases h38 : f = 38
  · subst h38
    exact xClone_ok (e := e_sib) (by_ := 32) (y := x) bldOk named mixed Tryd.func38 h (fun hy => (show evFn E (noExt E) 38 1 Tryd.f38 [.nil] [] = some ([] : List T_sib) from by kernel_rfl).trans (congrArg some hy.symm)) (fun xs hx => (show evFn E (noExt E) 38 1 Tryd.f38 [.rn e_sib xs] [] = chk (ltI (mulZ (addZ (ln ([] : List T_sib)) (ln xs)) 32) 140737488355328) (some (catL [] xs)) from by kernel_rfl).trans hx)
  by_cases h59 : f = 59
  · subst h59; exact xValid_ok (y := x) named Tryd.func59 rfl (fun T => rfl) rfl h (fun s w hs hg => valids s w hs hg)
  by_cases h94 : f = 94
  · subst h94; exact xDecodeRune_ok (y := x) named Tryd.func94 rfl (fun T => rfl) rfl h (fun s w hg => decodes s w hg)
  by_cases h134 : f = 134
  · subst h134; exact xCountString_ok (fun T => rfl) rfl h Tryd.func134 (by kernel_rfl) (by kernel_rfl) (by kernel_rfl) (by kernel_rfl)
  by_cases h146 : f = 146
  · subst h146; exact xIndexByteString_ok (fun T => rfl) rfl h Tryd.func146 (by kernel_rfl) (by kernel_rfl) (by kernel_rfl) (by kernel_rfl)
  have hn : ext f vs os = none := by
    unfold ext
    rw [dif_neg h38, dif_neg h59, dif_neg h94, dif_neg h134, dif_neg h146]
  rw [hn] at h
  cases h
#print axioms ext_ok
#print axioms bldOk
end Go.Proofs.YtmmmlfndnoeedaaDoor.NM
