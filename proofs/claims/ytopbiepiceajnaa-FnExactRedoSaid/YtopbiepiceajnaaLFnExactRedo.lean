/- The given statement FnExactRedo: at every argument the law returns true and leaves its arguments as they were. No condition. -/
import Derived.Test.YtopbiepiceajnaaRows
import Derived.Test.YtopbiepiceajnaaQx10
import Derived.Test.YtopbiepiceajnaaPureFnExactRedo
import Derived.Test.YtopbiepiceajnaaXOpen
import Derived.WalkKit
import Derived.ProofKit
import Derived.OpenShut
import Derived.ShutString
import Derived.ChangeOld
import Derived.Below
import Derived.SizedLaws
namespace Go.Proofs.Ytopbiepiceajnaa.fnExactRedo
open Go.ChangeShapes Go.WideShapes Go.ChangeAt Go.RowKit Go.Proofs.Ytopbiepiceajnaa.XOpen Go.Proofs.Ytopbiepiceajnaa.Q Go.Proofs.YtopbiepiceajnaaW.PrintWords Go.Proofs.Ytopbiepiceajnaa.GFnExactRedo
open Go.ChangeMaps (open_string shut_string)
set_option linter.unusedVariables false
theorem own : ownKnob Try.prog.godebug = none := by kernel_rfl
theorem laidOut : laidOutB Try.prog = true := by kernel_rfl
set_option maxHeartbeats 2000000 in
set_option maxRecDepth 100000 in
theorem lifted (os : Os) (started : os.Started) (H : Type) (enc : TypeId × Value → H) :
    ReturnsInHanded {} Try.checked os 8 .any (Rows.fnExactRedoSpec.pre6 enc Try.prog Try.f8 Rows.fnExactRedoRow.domain false) (Rows.fnExactRedoSpec.post enc Try.prog Try.f8 false true false false) := by
  refine returnsInHanded_of_change_sized (C := Try.checked) own started (by kernel_rfl) Try.func8
    (ChangeSpec.witness6 (enc := enc) (C := Try.checked) false ⟨#[], #[.agg #[.string ByteArray.empty, .slice none 0 0, .int .i64 0]], []⟩ 8 (by kernel_rfl) (by kernel_rfl) (by kernel_rfl) (by kernel_rfl)) ?_
  intro W base args ds gs before hval0 hW hcnd hsz0 _
  have hval : ∀ (j : Nat) t v, Try.f8.params[j]? = some t → args[j]? = some v → Value.okWide Try.prog W .any base t v := hval0
  have hW' := hW
  obtain ⟨p, q, hA0, hV, rfl, hfz, hnd⟩ := hW
  have hA : DataW.TrodAll enc Try.prog W 0 (fun _ => true) true Try.f8.params.toList args.toList ds p := hA0
  rw [Try.params8] at hA hval
  obtain ⟨v0, vs0, d0, ds0, p0, q0, hargs, rfl, rfl, h0, r0⟩ := trodAll_cons hA
  obtain ⟨rfl, rfl, rfl⟩ := trodAll_nil r0
  obtain rfl : args = #[v0] := by cases args; simp_all
  obtain ⟨rfl, rfl⟩ := trodVars_none hV
  have k0 := h0
  have lt0 : ∀ x ∈ p0, x.block < W.heap.size := by obtain ⟨m, hm⟩ := k0; exact DataW.trod_lt m _ _ _ hm
  obtain ⟨fuel0, hf0⟩ := h0
  obtain ⟨cs0, rfl, hz0⟩ := okWide_struct Try.underlying24 (hval 0 24 v0 rfl rfl)
  obtain ⟨⟨a0_0, ⟨l0_1, a0_2⟩⟩, hK0, hG0⟩ := (opens_struct Try.underlying24 (opensF_cons (opens_string Try.underlying9 (by kernel_rfl)) (opensF_cons (opens_slice Try.underlying22 (by kernel_rfl) opens96) (opensF_one (opens_int Try.underlying2 (by kernel_rfl)) (by kernel_rfl)) (by kernel_rfl)) (by kernel_rfl))).2 H enc W _ _ _ _ _ _ hf0
  obtain ⟨cl0, hcl0⟩ : ∃ cl, (Value.agg cs0).cells.toList = cl := ⟨_, rfl⟩
  rw [hcl0] at hK0
  obtain ⟨_, _, rfl, rfl, ⟨_, _, rfl, ⟨A0_1, c0_1, rfl, hc0_1, hr0_1⟩, rfl⟩⟩ := hK0
  obtain rfl : cs0 = #[.string a0_0, .slice A0_1 l0_1.length c0_1, .int .i64 a0_2] := by apply Array.toList_inj.1; exact hcl0
  obtain ⟨g0_0, ⟨g0_1, g0_2⟩⟩ := hG0
  have P : Pure := Pure.FnExactRedo
  obtain ⟨k, h⟩ := P a0_0 l0_1 a0_2 g0_0 g0_1 g0_2
  refine (laws_FnExactRedo.calls k a0_0 A0_1 c0_1 l0_1 a0_2 true W hr0_1 hc0_1 h).mono fun e W' ⟨he, bel0⟩ => ?_
  have bel : Below W.heap.size W W' := bel0
  subst he
  exact ⟨_, rfl, _, _, _, [], _, [], hW', trodAll_mk1 (shut_bool Try.underlying4 _), (trodAll_cons_mk (Below.trod laidOut (by kernel_rfl) (of_decide_eq_true (by kernel_rfl)) k0 bel lt0) trodAll_mk0), rfl, bel.frame _, fun h => by cases h⟩
theorem over : Rows.fnExactRedoRow.holds Try.pinned (OpenSpec.ofChange Rows.fnExactRedoSpec) :=
  OpenClaim.holds_of_wide 8 Try.f8 rfl rfl rfl rfl rfl rfl rfl ⟨rfl, rfl, rfl, rfl, rfl⟩ rfl rfl rfl rfl rfl (by kernel_rfl) Try.func8 (by kernel_rfl)
    (of_decide_eq_true (by kernel_rfl)) (by unfold Func.isWrapper; first | (rw [if_pos (by decide +kernel)]; kernel_rfl) | (rw [if_neg (by decide +kernel)]; exact ⟨rfl, rfl⟩))
    (fun os started H enc _ => lifted os started H enc)
theorem proved : Rows.FnExactRedoSaid := over
#print axioms proved
end Go.Proofs.Ytopbiepiceajnaa.fnExactRedo
namespace Go.Proofs.Ytopbiepiceajnaa
theorem fnExactRedo_holds : Rows.FnExactRedoSaid := fnExactRedo.proved
end Go.Proofs.Ytopbiepiceajnaa
