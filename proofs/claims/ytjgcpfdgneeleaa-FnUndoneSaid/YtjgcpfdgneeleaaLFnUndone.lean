/- The given statement FnUndone: at every argument the law returns true and leaves its arguments as they were. No condition. -/
import Derived.Test.YtjgcpfdgneeleaaRows
import Derived.Test.YtjgcpfdgneeleaaPFnUndone
import Derived.Test.YtjgcpfdgneeleaaEG
import Derived.WalkKit
import Derived.ProofKit
import Derived.OpenShut
import Derived.ShutString
import Derived.ChangeOld
import Derived.Below
import Derived.SizedLaws
import Derived.WideShapes
import Derived.ChangeArms
import Derived.ChangeAt
namespace Go.Proofs.Ytjgcpfdgneeleaa.fnUndone
open Go.ChangeShapes Go.WideShapes Go.ChangeAt Go.RowKit Go.Eng Go.Proofs.Ytjgcpfdgneeleaa.UN
open Go.ChangeMaps (open_string shut_string)
set_option linter.unusedVariables false
theorem own : ownKnob Try.prog.godebug = none := by kernel_rfl
theorem laidOut : laidOutB Try.prog = true := by kernel_rfl
theorem named : Named E.P := @named_of Glb.none _ (by kernel_rfl)
theorem mixed : E.P.follows .mixedOrders = true := by kernel_rfl
theorem bldOk (vv : Value) : @BldOk (glbA vv) E := by
  letI : Glb := glbA vv
  exact BldOk.none (fun _ => rfl) (fun _ => rfl)
theorem ext_ok (vv : Value) : @FnOk (glbA vv) E ext := by
  letI : Glb := glbA vv
  intro f vs os x h
  by_cases h23 : f = 23
  · subst h23
    exact xClone_ok (e := e_issi) (by_ := 48) (y := x) (bldOk vv) named mixed Try.func23 h (fun hy => (show evFn E (noExt E) 23 1 Try.f23 [.nil] [] = some ([] : List T_issi) from by kernel_rfl).trans (congrArg some hy.symm)) (fun xs hx => (show evFn E (noExt E) 23 1 Try.f23 [.rn e_issi xs] [] = chk (ltI (mulZ (addZ (ln ([] : List T_issi)) (ln xs)) 48) 140737488355328) (some (catL [] xs)) from by kernel_rfl).trans hx)
  have hn : ext f vs os = none := by
    unfold ext
    rw [dif_neg h23]
  rw [hn] at h
  cases h
noncomputable def loc0 : Nat → Go.Eng.Loc := fun _ => { a := none, len := 0, cap := 0, sz := 0 }
set_option maxHeartbeats 2000000 in
set_option maxRecDepth 100000 in
theorem lifted (os : Os) (started : os.Started) (H : Type) (enc : TypeId × Value → H) :
    ReturnsInHanded {} Try.checked os 3 .any (Rows.fnUndoneSpec.pre6 enc Try.prog Try.f3 Rows.fnUndoneRow.domain false) (Rows.fnUndoneSpec.post enc Try.prog Try.f3 false true false false) := by
  refine returnsInHanded_of_change_sized (C := Try.checked) own started (by kernel_rfl) Try.func3
    (ChangeSpec.witness6 (enc := enc) (C := Try.checked) false ⟨#[], #[.slice none 0 0], []⟩ 8 (by kernel_rfl) (by kernel_rfl) (by kernel_rfl) (by kernel_rfl)) ?_
  intro W base args ds gs before hval0 hW hcnd hsz0 _
  have hval : ∀ (j : Nat) t v, Try.f3.params[j]? = some t → args[j]? = some v → Value.okWide Try.prog W .any base t v := hval0
  have hW' := hW
  obtain ⟨p, q, hA0, hV, rfl, hfz, hnd⟩ := hW
  have hA : DataW.TrodAll enc Try.prog W 0 (fun _ => true) true Try.f3.params.toList args.toList ds p := hA0
  rw [Try.params3] at hA hval
  obtain ⟨v0, vs0, d0, ds0, p0, q0, hargs, rfl, rfl, h0, r0⟩ := trodAll_cons hA
  obtain ⟨rfl, rfl, rfl⟩ := trodAll_nil r0
  obtain rfl : args = #[v0] := by cases args; simp_all
  obtain ⟨rfl, rfl⟩ := trodVars_none hV
  have k0 := h0
  have lt0 : ∀ x ∈ p0, x.block < W.heap.size := by obtain ⟨m, hm⟩ := k0; exact DataW.trod_lt m _ _ _ hm
  obtain ⟨fuel0, hf0⟩ := h0
  obtain ⟨az0, lz0, cz0, rfl⟩ := okWide_slice Try.underlying22 (hval 0 22 v0 rfl rfl)
  letI : Glb := glbA (.slice az0 lz0 cz0)
  obtain ⟨x0, hr0, hg0⟩ := arg_one (loc := loc0) (c := (.row e_y)) (fun _ => rfl) 6 (by kernel_rfl) rfl hf0
  have hrc : Rep W (inHeap W) loc0 (.rc 0 e_y x0.1) (.slice az0 lz0 cz0) := ⟨rfl, rfl, hr0⟩
  have hin : ∀ ad l c, (Value.slice az0 lz0 cz0) = .slice (some ad) l c → 0 < c → ad.block < W.heap.size := fun ad l c he hc => by
    obtain ⟨a, cap, h3, _, _, h6⟩ := (hr0 : CT.Cell W (inHeap W) (.row e_y) _ x0.1)
    rw [he] at h3
    injection h3 with e1 e2 e3
    subst e1 e3
    exact ((h6 hc).2.2 ad rfl).2.1
  obtain ⟨kk, h⟩ := pure_FnUndone (x0.1) (hg0.1)
  refine (law_calls (E := E) (ext := ext) (loc := loc0) (f := 3) (x := true) (bldOk _) named mixed (ext_ok _) Try.func3 rfl h rfl (fun _ _ h => h) (hg := ⟨trivial, fun b hb => by obtain ⟨ad, l, c, he, hc, rfl⟩ := hb; exact hin ad l c he hc⟩) (args := #[_]) ⟨hrc, trivial⟩).mono fun e W' ⟨he, bel⟩ => ?_
  subst he
  exact ⟨_, rfl, _, _, _, [], _, [], hW', trodAll_mk1 (shut_bool Try.underlying4 _), (trodAll_cons_mk (Below.trod laidOut (by kernel_rfl) (of_decide_eq_true (by kernel_rfl)) k0 bel lt0) trodAll_mk0), rfl, bel.frame _, fun h => by cases h⟩
theorem over : Rows.fnUndoneRow.holds Try.pinned (OpenSpec.ofChange Rows.fnUndoneSpec) :=
  OpenClaim.holds_of_wide 3 Try.f3 rfl rfl rfl rfl rfl rfl rfl ⟨rfl, rfl, rfl, rfl, rfl⟩ rfl rfl rfl rfl rfl (by kernel_rfl) Try.func3 (by kernel_rfl)
    (of_decide_eq_true (by kernel_rfl)) (by unfold Func.isWrapper; first | (rw [if_pos (by decide +kernel)]; kernel_rfl) | (rw [if_neg (by decide +kernel)]; exact ⟨rfl, rfl⟩))
    (fun os started H enc _ => lifted os started H enc)
theorem proved : Rows.FnUndoneSaid := over
#print axioms proved
end Go.Proofs.Ytjgcpfdgneeleaa.fnUndone
namespace Go.Proofs.Ytjgcpfdgneeleaa
theorem fnUndone_holds : Rows.FnUndoneSaid := fnUndone.proved
end Go.Proofs.Ytjgcpfdgneeleaa
