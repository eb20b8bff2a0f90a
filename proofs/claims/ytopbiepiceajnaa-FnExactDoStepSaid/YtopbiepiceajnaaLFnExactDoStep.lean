/- The given statement FnExactDoStep: at every argument the law returns true and leaves its arguments as they were. No condition. -/
import Derived.Test.YtopbiepiceajnaaRows
import Derived.Test.YtopbiepiceajnaaPDo
import Derived.Test.YtopbiepiceajnaaE30
import Derived.WalkKit
import Derived.ProofKit
import Derived.OpenShut
import Derived.ShutString
import Derived.ChangeOld
import Derived.Below
import Derived.SizedLaws
import Derived.WideShapes
import Derived.ChangeArms
import Derived.ChangeAt
namespace Go.Proofs.Ytopbiepiceajnaa.fnExactDoStep
open Go.ChangeShapes Go.WideShapes Go.ChangeAt Go.RowKit Go.Eng Go.Proofs.Ytopbiepiceajnaa.D
open Go.ChangeMaps (open_string shut_string)
set_option linter.unusedVariables false
theorem own : ownKnob Try.prog.godebug = none := by kernel_rfl
theorem laidOut : laidOutB Try.prog = true := by kernel_rfl
theorem named : Named E.P := named_of (by kernel_rfl)
theorem mixed : E.P.follows .mixedOrders = true := by kernel_rfl
theorem ext_ok : FnOk E ext := by
  intro f vs os x h
  by_cases h54 : f = 54
  · subst h54
    exact xClone_ok (e := e_issi) (by_ := 48) (y := x) named mixed Try.func54 h (fun hy => (show evFn E (noExt E) 54 1 Try.f54 [.nil] [] = some ([] : List T_issi) from by kernel_rfl).trans (congrArg some hy.symm)) (fun xs hx => (show evFn E (noExt E) 54 1 Try.f54 [.rn e_issi xs] [] = chk (ltI (mulZ (addZ (ln ([] : List T_issi)) (ln xs)) 48) 140737488355328) (some (catL [] xs)) from by kernel_rfl).trans hx)
  have hn : ext f vs os = none := by
    unfold ext
    rw [dif_neg h54]
  rw [hn] at h
  cases h
noncomputable def loc0 : Nat → Go.Eng.Loc := fun _ => { a := none, len := 0, cap := 0, sz := 0 }
set_option maxHeartbeats 2000000 in
set_option maxRecDepth 100000 in
theorem lifted (os : Os) (started : os.Started) (H : Type) (enc : TypeId × Value → H) :
    ReturnsInHanded {} Try.checked os 9 .any (Rows.fnExactDoStepSpec.pre6 enc Try.prog Try.f9 Rows.fnExactDoStepRow.domain false) (Rows.fnExactDoStepSpec.post enc Try.prog Try.f9 false true false false) := by
  refine returnsInHanded_of_change_sized (C := Try.checked) own started (by kernel_rfl) Try.func9
    (ChangeSpec.witness6 (enc := enc) (C := Try.checked) false ⟨#[], #[.agg #[.string ByteArray.empty, .slice none 0 0, .int .i64 0], .int .i64 0, .int .i64 0, .string ByteArray.empty, .int .i64 0], []⟩ 8 (by kernel_rfl) (by kernel_rfl) (by kernel_rfl) (by kernel_rfl)) ?_
  intro W base args ds gs before hval0 hW hcnd hsz0 _
  have hval : ∀ (j : Nat) t v, Try.f9.params[j]? = some t → args[j]? = some v → Value.okWide Try.prog W .any base t v := hval0
  have hW' := hW
  obtain ⟨p, q, hA0, hV, rfl, hfz, hnd⟩ := hW
  have hA : DataW.TrodAll enc Try.prog W 0 (fun _ => true) true Try.f9.params.toList args.toList ds p := hA0
  rw [Try.params9] at hA hval
  obtain ⟨v0, vs0, d0, ds0, p0, q0, hargs, rfl, rfl, h0, r0⟩ := trodAll_cons hA
  obtain ⟨v1, vs1, d1, ds1, p1, q1, rfl, rfl, rfl, h1, r1⟩ := trodAll_cons r0
  obtain ⟨v2, vs2, d2, ds2, p2, q2, rfl, rfl, rfl, h2, r2⟩ := trodAll_cons r1
  obtain ⟨v3, vs3, d3, ds3, p3, q3, rfl, rfl, rfl, h3, r3⟩ := trodAll_cons r2
  obtain ⟨v4, vs4, d4, ds4, p4, q4, rfl, rfl, rfl, h4, r4⟩ := trodAll_cons r3
  obtain ⟨rfl, rfl, rfl⟩ := trodAll_nil r4
  obtain rfl : args = #[v0, v1, v2, v3, v4] := by cases args; simp_all
  obtain ⟨rfl, rfl⟩ := trodVars_none hV
  have k0 := h0
  have lt0 : ∀ x ∈ p0, x.block < W.heap.size := by obtain ⟨m, hm⟩ := k0; exact DataW.trod_lt m _ _ _ hm
  obtain ⟨fuel0, hf0⟩ := h0
  obtain ⟨cs0, rfl, hz0⟩ := okWide_struct Try.underlying24 (hval 0 24 v0 rfl rfl)
  obtain ⟨x0, hr0, hg0⟩ := arg_agg (loc := loc0) (l := [.str, (.row e_issi), (.int .i64)]) (fun _ => rfl) 6 (by kernel_rfl) hf0
  have k1 := h1
  have lt1 : ∀ x ∈ p1, x.block < W.heap.size := by obtain ⟨m, hm⟩ := k1; exact DataW.trod_lt m _ _ _ hm
  obtain ⟨fuel1, hf1⟩ := h1
  obtain ⟨nz1, rfl, _⟩ := okWide_int Try.underlying2 (hval 1 2 v1 rfl rfl)
  obtain ⟨x1, hr1, hg1⟩ := arg_one (loc := loc0) (c := (.int .i64)) (fun _ => rfl) 6 (by kernel_rfl) rfl hf1
  have k2 := h2
  have lt2 : ∀ x ∈ p2, x.block < W.heap.size := by obtain ⟨m, hm⟩ := k2; exact DataW.trod_lt m _ _ _ hm
  obtain ⟨fuel2, hf2⟩ := h2
  obtain ⟨nz2, rfl, _⟩ := okWide_int Try.underlying2 (hval 2 2 v2 rfl rfl)
  obtain ⟨x2, hr2, hg2⟩ := arg_one (loc := loc0) (c := (.int .i64)) (fun _ => rfl) 6 (by kernel_rfl) rfl hf2
  have k3 := h3
  have lt3 : ∀ x ∈ p3, x.block < W.heap.size := by obtain ⟨m, hm⟩ := k3; exact DataW.trod_lt m _ _ _ hm
  obtain ⟨fuel3, hf3⟩ := h3
  obtain ⟨sz3, rfl⟩ := okWide_string Try.underlying9 (hval 3 9 v3 rfl rfl)
  obtain ⟨x3, hr3, hg3⟩ := arg_one (loc := loc0) (c := .str) (fun _ => rfl) 6 (by kernel_rfl) rfl hf3
  have k4 := h4
  have lt4 : ∀ x ∈ p4, x.block < W.heap.size := by obtain ⟨m, hm⟩ := k4; exact DataW.trod_lt m _ _ _ hm
  obtain ⟨fuel4, hf4⟩ := h4
  obtain ⟨nz4, rfl, _⟩ := okWide_int Try.underlying2 (hval 4 2 v4 rfl rfl)
  obtain ⟨x4, hr4, hg4⟩ := arg_one (loc := loc0) (c := (.int .i64)) (fun _ => rfl) 6 (by kernel_rfl) rfl hf4
  obtain ⟨kk, h⟩ := pure_FnExactDoStep (x0.1) (x0.2.1) (x0.2.2.1) (x1.1) (x2.1) (x3.1) (x4.1) (hg0.1) (hg0.2.1) (hg0.2.2.1) (hg1.1) (hg2.1) (hg3.1) (hg4.1)
  refine (law_calls (E := E) (ext := ext) (loc := loc0) (f := 9) (x := true) named mixed ext_ok Try.func9 rfl h rfl (fun _ _ h => h) (hg := ⟨trivial, fun b hb => hb.elim⟩) (args := #[_, _, _, _, _]) ⟨hr0, ⟨hr1, ⟨hr2, ⟨hr3, ⟨hr4, trivial⟩⟩⟩⟩⟩).mono fun e W' ⟨he, bel⟩ => ?_
  subst he
  exact ⟨_, rfl, _, _, _, [], _, [], hW', trodAll_mk1 (shut_bool Try.underlying4 _), (trodAll_cons_mk (Below.trod laidOut (by kernel_rfl) (of_decide_eq_true (by kernel_rfl)) k0 bel lt0) (trodAll_cons_mk (Below.trod laidOut (by kernel_rfl) (of_decide_eq_true (by kernel_rfl)) k1 bel lt1) (trodAll_cons_mk (Below.trod laidOut (by kernel_rfl) (of_decide_eq_true (by kernel_rfl)) k2 bel lt2) (trodAll_cons_mk (Below.trod laidOut (by kernel_rfl) (of_decide_eq_true (by kernel_rfl)) k3 bel lt3) (trodAll_cons_mk (Below.trod laidOut (by kernel_rfl) (of_decide_eq_true (by kernel_rfl)) k4 bel lt4) trodAll_mk0))))), rfl, bel.frame _, fun h => by cases h⟩
theorem over : Rows.fnExactDoStepRow.holds Try.pinned (OpenSpec.ofChange Rows.fnExactDoStepSpec) :=
  OpenClaim.holds_of_wide 9 Try.f9 rfl rfl rfl rfl rfl rfl rfl ⟨rfl, rfl, rfl, rfl, rfl⟩ rfl rfl rfl rfl rfl (by kernel_rfl) Try.func9 (by kernel_rfl)
    (of_decide_eq_true (by kernel_rfl)) (by unfold Func.isWrapper; first | (rw [if_pos (by decide +kernel)]; kernel_rfl) | (rw [if_neg (by decide +kernel)]; exact ⟨rfl, rfl⟩))
    (fun os started H enc _ => lifted os started H enc)
theorem proved : Rows.FnExactDoStepSaid := over
#print axioms proved
end Go.Proofs.Ytopbiepiceajnaa.fnExactDoStep
namespace Go.Proofs.Ytopbiepiceajnaa
theorem fnExactDoStep_holds : Rows.FnExactDoStepSaid := fnExactDoStep.proved
end Go.Proofs.Ytopbiepiceajnaa
