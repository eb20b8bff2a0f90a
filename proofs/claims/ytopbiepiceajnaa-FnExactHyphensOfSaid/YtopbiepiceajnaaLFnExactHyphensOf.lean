/- The given statement FnExactHyphensOf: at every argument the law returns true and leaves its arguments as they were. No condition. -/
import Derived.Test.YtopbiepiceajnaaRows
import Derived.Test.YtopbiepiceajnaaPHyph
import Derived.Test.YtopbiepiceajnaaE30
import Derived.WalkKit
import Derived.ProofKit
import Derived.OpenShut
import Derived.ShutString
import Derived.ChangeOld
import Derived.Below
import Derived.SizedLaws
import Derived.WideShapes
import Derived.ChangeArms
import Derived.ChangeAt
namespace Go.Proofs.Ytopbiepiceajnaa.fnExactHyphensOf
open Go.ChangeShapes Go.WideShapes Go.ChangeAt Go.RowKit Go.Eng Go.Proofs.Ytopbiepiceajnaa.S
open Go.ChangeMaps (open_string shut_string)
set_option linter.unusedVariables false
theorem own : ownKnob Try.prog.godebug = none := by kernel_rfl
theorem laidOut : laidOutB Try.prog = true := by kernel_rfl
theorem named : Named E.P := named_of (by kernel_rfl)
theorem mixed : E.P.follows .mixedOrders = true := by kernel_rfl
theorem ext_ok : FnOk E ext := by
  intro f vs os x h
  by_cases h93 : f = 93
  · subst h93; exact xIndexByteString_ok (fun T => rfl) rfl h Try.func93 (by kernel_rfl) (by kernel_rfl) (by kernel_rfl) (by kernel_rfl)
  have hn : ext f vs os = none := by
    unfold ext
    rw [dif_neg h93]
  rw [hn] at h
  cases h
noncomputable def loc0 : Nat → Go.Eng.Loc := fun _ => { a := none, len := 0, cap := 0, sz := 0 }
set_option maxHeartbeats 2000000 in
set_option maxRecDepth 100000 in
theorem lifted (os : Os) (started : os.Started) (H : Type) (enc : TypeId × Value → H) :
    ReturnsInHanded {} Try.checked os 10 .any (Rows.fnExactHyphensOfSpec.pre6 enc Try.prog Try.f10 Rows.fnExactHyphensOfRow.domain false) (Rows.fnExactHyphensOfSpec.post enc Try.prog Try.f10 false true false false) := by
  refine returnsInHanded_of_change_sized (C := Try.checked) own started (by kernel_rfl) Try.func10
    (ChangeSpec.witness6 (enc := enc) (C := Try.checked) false ⟨#[], #[.slice none 0 0, .string ByteArray.empty], []⟩ 8 (by kernel_rfl) (by kernel_rfl) (by kernel_rfl) (by kernel_rfl)) ?_
  intro W base args ds gs before hval0 hW hcnd hsz0 _
  have hval : ∀ (j : Nat) t v, Try.f10.params[j]? = some t → args[j]? = some v → Value.okWide Try.prog W .any base t v := hval0
  have hW' := hW
  obtain ⟨p, q, hA0, hV, rfl, hfz, hnd⟩ := hW
  have hA : DataW.TrodAll enc Try.prog W 0 (fun _ => true) true Try.f10.params.toList args.toList ds p := hA0
  rw [Try.params10] at hA hval
  obtain ⟨v0, vs0, d0, ds0, p0, q0, hargs, rfl, rfl, h0, r0⟩ := trodAll_cons hA
  obtain ⟨v1, vs1, d1, ds1, p1, q1, rfl, rfl, rfl, h1, r1⟩ := trodAll_cons r0
  obtain ⟨rfl, rfl, rfl⟩ := trodAll_nil r1
  obtain rfl : args = #[v0, v1] := by cases args; simp_all
  obtain ⟨rfl, rfl⟩ := trodVars_none hV
  have k0 := h0
  have lt0 : ∀ x ∈ p0, x.block < W.heap.size := by obtain ⟨m, hm⟩ := k0; exact DataW.trod_lt m _ _ _ hm
  obtain ⟨fuel0, hf0⟩ := h0
  obtain ⟨az0, lz0, cz0, rfl⟩ := okWide_slice Try.underlying35 (hval 0 35 v0 rfl rfl)
  obtain ⟨x0, hr0, hg0⟩ := arg_one (loc := loc0) (c := (.row e_s)) (fun _ => rfl) 6 (by kernel_rfl) rfl hf0
  have k1 := h1
  have lt1 : ∀ x ∈ p1, x.block < W.heap.size := by obtain ⟨m, hm⟩ := k1; exact DataW.trod_lt m _ _ _ hm
  obtain ⟨fuel1, hf1⟩ := h1
  obtain ⟨sz1, rfl⟩ := okWide_string Try.underlying9 (hval 1 9 v1 rfl rfl)
  obtain ⟨x1, hr1, hg1⟩ := arg_one (loc := loc0) (c := .str) (fun _ => rfl) 6 (by kernel_rfl) rfl hf1
  obtain ⟨kk, h⟩ := pure_FnExactHyphensOf (x0.1) (x1.1) (hg0.1) (hg1.1)
  refine (law_calls (E := E) (ext := ext) (loc := loc0) (f := 10) (x := true) named mixed ext_ok Try.func10 rfl h rfl (fun _ _ h => h) (args := #[_, _]) ⟨hr0, ⟨hr1, trivial⟩⟩).mono fun e W' ⟨he, bel⟩ => ?_
  subst he
  exact ⟨_, rfl, _, _, _, [], _, [], hW', trodAll_mk1 (shut_bool Try.underlying4 _), (trodAll_cons_mk (Below.trod laidOut (by kernel_rfl) (of_decide_eq_true (by kernel_rfl)) k0 bel lt0) (trodAll_cons_mk (Below.trod laidOut (by kernel_rfl) (of_decide_eq_true (by kernel_rfl)) k1 bel lt1) trodAll_mk0)), rfl, bel.frame _, fun h => by cases h⟩
theorem over : Rows.fnExactHyphensOfRow.holds Try.pinned (OpenSpec.ofChange Rows.fnExactHyphensOfSpec) :=
  OpenClaim.holds_of_wide 10 Try.f10 rfl rfl rfl rfl rfl rfl rfl ⟨rfl, rfl, rfl, rfl, rfl⟩ rfl rfl rfl rfl rfl (by kernel_rfl) Try.func10 (by kernel_rfl)
    (of_decide_eq_true (by kernel_rfl)) (by unfold Func.isWrapper; first | (rw [if_pos (by decide +kernel)]; kernel_rfl) | (rw [if_neg (by decide +kernel)]; exact ⟨rfl, rfl⟩))
    (fun os started H enc _ => lifted os started H enc)
theorem proved : Rows.FnExactHyphensOfSaid := over
#print axioms proved
end Go.Proofs.Ytopbiepiceajnaa.fnExactHyphensOf
namespace Go.Proofs.Ytopbiepiceajnaa
theorem fnExactHyphensOf_holds : Rows.FnExactHyphensOfSaid := fnExactHyphensOf.proved
end Go.Proofs.Ytopbiepiceajnaa
