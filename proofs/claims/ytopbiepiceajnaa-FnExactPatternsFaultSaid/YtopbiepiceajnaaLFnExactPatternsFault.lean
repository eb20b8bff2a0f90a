/- The given statement FnExactPatternsFault: at every argument the law returns true and leaves its arguments as they were. No condition. -/
import Derived.Test.YtopbiepiceajnaaRows
import Derived.Test.YtopbiepiceajnaaHx5
import Derived.Test.YtopbiepiceajnaaPureFnExactPatternsFault
import Derived.Test.YtopbiepiceajnaaXOpen
import Derived.WalkKit
import Derived.ProofKit
import Derived.OpenShut
import Derived.ShutString
import Derived.ChangeOld
import Derived.Below
import Derived.SizedLaws
namespace Go.Proofs.Ytopbiepiceajnaa.fnExactPatternsFault
open Go.ChangeShapes Go.WideShapes Go.ChangeAt Go.RowKit Go.Proofs.Ytopbiepiceajnaa.XOpen Go.Proofs.Ytopbiepiceajnaa.H Go.Proofs.YtopbiepiceajnaaW.PrintWords Go.Proofs.Ytopbiepiceajnaa.GFnExactPatternsFault
open Go.ChangeMaps (open_string shut_string)
set_option linter.unusedVariables false
theorem own : ownKnob Try.prog.godebug = none := by kernel_rfl
theorem laidOut : laidOutB Try.prog = true := by kernel_rfl
set_option maxHeartbeats 2000000 in
set_option maxRecDepth 100000 in
theorem lifted (os : Os) (started : os.Started) (H : Type) (enc : TypeId × Value → H) :
    ReturnsInHanded {} Try.checked os 5 .any (Rows.fnExactPatternsFaultSpec.pre6 enc Try.prog Try.f5 Rows.fnExactPatternsFaultRow.domain false) (Rows.fnExactPatternsFaultSpec.post enc Try.prog Try.f5 false true false false) := by
  refine returnsInHanded_of_change_sized (C := Try.checked) own started (by kernel_rfl) Try.func5
    (ChangeSpec.witness6 (enc := enc) (C := Try.checked) false ⟨#[], #[.slice none 0 0], []⟩ 8 (by kernel_rfl) (by kernel_rfl) (by kernel_rfl) (by kernel_rfl)) ?_
  intro W base args ds gs before hval0 hW hcnd hsz0 _
  have hval : ∀ (j : Nat) t v, Try.f5.params[j]? = some t → args[j]? = some v → Value.okWide Try.prog W .any base t v := hval0
  have hW' := hW
  obtain ⟨p, q, hA0, hV, rfl, hfz, hnd⟩ := hW
  have hA : DataW.TrodAll enc Try.prog W 0 (fun _ => true) true Try.f5.params.toList args.toList ds p := hA0
  rw [Try.params5] at hA hval
  obtain ⟨v0, vs0, d0, ds0, p0, q0, hargs, rfl, rfl, h0, r0⟩ := trodAll_cons hA
  obtain ⟨rfl, rfl, rfl⟩ := trodAll_nil r0
  obtain rfl : args = #[v0] := by cases args; simp_all
  obtain ⟨rfl, rfl⟩ := trodVars_none hV
  have k0 := h0
  have lt0 : ∀ x ∈ p0, x.block < W.heap.size := by obtain ⟨m, hm⟩ := k0; exact DataW.trod_lt m _ _ _ hm
  obtain ⟨fuel0, hf0⟩ := h0
  obtain ⟨az0, lz0, cz0, rfl⟩ := okWide_slice Try.underlying35 (hval 0 35 v0 rfl rfl)
  obtain ⟨l0, hK0, hG0⟩ := (opens_slice Try.underlying35 (by kernel_rfl) (opens_string Try.underlying9 (by kernel_rfl))).2 H enc W _ _ _ _ _ _ hf0
  obtain ⟨A0, c0, hcs0, hc0, hr0⟩ := hK0
  obtain ⟨rfl, rfl, rfl⟩ : A0 = az0 ∧ l0.length = lz0 ∧ c0 = cz0 := (fun h_ => ⟨h_.1.symm, h_.2.1.symm, h_.2.2.symm⟩) (by simpa [Value.cells] using hcs0 : az0 = A0 ∧ lz0 = l0.length ∧ cz0 = c0)
  have g0 := hG0
  have P : Pure := Pure.FnExactPatternsFault
  obtain ⟨k, h⟩ := P l0 g0
  refine (laws_FnExactPatternsFault.calls k A0 c0 l0 true W hr0 hc0 h).mono fun e W' ⟨he, bel0⟩ => ?_
  have bel : Below W.heap.size W W' := bel0
  subst he
  exact ⟨_, rfl, _, _, _, [], _, [], hW', trodAll_mk1 (shut_bool Try.underlying4 _), (trodAll_cons_mk (Below.trod laidOut (by kernel_rfl) (of_decide_eq_true (by kernel_rfl)) k0 bel lt0) trodAll_mk0), rfl, bel.frame _, fun h => by cases h⟩
theorem over : Rows.fnExactPatternsFaultRow.holds Try.pinned (OpenSpec.ofChange Rows.fnExactPatternsFaultSpec) :=
  OpenClaim.holds_of_wide 5 Try.f5 rfl rfl rfl rfl rfl rfl rfl ⟨rfl, rfl, rfl, rfl, rfl⟩ rfl rfl rfl rfl rfl (by kernel_rfl) Try.func5 (by kernel_rfl)
    (of_decide_eq_true (by kernel_rfl)) (by unfold Func.isWrapper; first | (rw [if_pos (by decide +kernel)]; kernel_rfl) | (rw [if_neg (by decide +kernel)]; exact ⟨rfl, rfl⟩))
    (fun os started H enc _ => lifted os started H enc)
theorem proved : Rows.FnExactPatternsFaultSaid := over
#print axioms proved
end Go.Proofs.Ytopbiepiceajnaa.fnExactPatternsFault
namespace Go.Proofs.Ytopbiepiceajnaa
theorem fnExactPatternsFault_holds : Rows.FnExactPatternsFaultSaid := fnExactPatternsFault.proved
end Go.Proofs.Ytopbiepiceajnaa
