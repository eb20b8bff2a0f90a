/- The given statement FnExactPutMark: at every argument the law returns true and leaves its arguments as they were, where the two tables of unicode/utf8 lie as the program lays them. No other condition. -/
import Derived.Test.YtfbhkkedmfbgbaaDoorRows
import Derived.Test.YtfbhkkedmfbgbaaDoorTie
import Derived.Test.YtfbhkkedmfbgbaaDoorCards
import Derived.Test.YtfbhkkedmfbgbaaDoorPPutL
import Derived.Test.YtfbhkkedmfbgbaaDoorLW
import Derived.Test.YtfbhkkedmfbgbaaDoorLEPM
import Derived.WalkKit
import Derived.ProofKit
import Derived.OpenShut
import Derived.OpenVars
import Derived.ChangeVars
import Derived.ShutString
import Derived.ChangeOld
import Derived.Below
import Derived.SizedLaws
import Derived.WideShapes
import Derived.ChangeArms
import Derived.ChangeAt
import Derived.Lib.LaidIn
import Derived.Deep.DeepHandedRow
import Derived.Deep.DeepWitnessRowRef
import Derived.SevenTiedAt
namespace Go.Proofs.YtfbhkkedmfbgbaaDoor.fnExactPutMark
open Go.ChangeShapes Go.WideShapes Go.ChangeAt Go.RowKit Go.Eng Go.Proofs.YtfbhkkedmfbgbaaDoor.PM
open Go.ChangeMaps (open_string shut_string)
set_option linter.unusedVariables false
set_option maxRecDepth 100000
theorem own : ownKnob Tryd.prog.godebug = none := by kernel_rfl
theorem laidOut : laidOutB Tryd.prog = true := by kernel_rfl
noncomputable def loc0 : Nat → Go.Eng.Loc := fun _ => { a := none, len := 0, cap := 0, sz := 0 }
theorem witness_row (os : Os) {H : Type} (enc : TypeId × Value → H) :
    (OpenSpec.ofChange Rows.fnExactPutMarkSpec).preRow enc Tryd.prog Tryd.f3 Rows.fnExactPutMarkRow.domain false Rows.fnExactPutMarkRow.laid ((laidWorld os).forCall (fun _ _ => 0) ⟨#[], #[.agg #[.slice none 0 0, .slice none 0 0], .agg #[.string ⟨#[]⟩, .int .i64 0, .bool false]], []⟩).memory #[.agg #[.slice none 0 0, .slice none 0 0], .agg #[.string ⟨#[]⟩, .int .i64 0, .bool false]] := by
  have hw : (DataW.whole enc Tryd.prog ((laidWorld os).forCall (fun _ _ => 0) ⟨#[], #[.agg #[.slice none 0 0, .slice none 0 0], .agg #[.string ⟨#[]⟩, .int .i64 0, .bool false]], []⟩).memory Tryd.f3.params.toList (OpenSpec.ofChange Rows.fnExactPutMarkSpec).vars false (#[.agg #[.slice none 0 0, .slice none 0 0], .agg #[.string ⟨#[]⟩, .int .i64 0, .bool false]] : Array Value).toList 8).map (fun x => (x.1, x.2.1)) =
      some ([.agg [.nil, .nil], .agg [.lit (.string []), .lit (.int .i64 0), .lit (.bool false)]], []) := by kernel_rfl
  obtain ⟨⟨x1, x2, x3⟩, hx, hx1⟩ := Option.map_eq_some_iff.1 hw
  simp only [Prod.mk.injEq] at hx1
  obtain ⟨rfl, rfl⟩ := hx1
  exact OpenSpec.preRow_of_cond 8 hx (by kernel_rfl) (fun k hk => by cases hk) (by kernel_rfl) (laid_met os _)
set_option maxHeartbeats 2000000 in
theorem lifted (os : Os) (started : os.Started) (H : Type) (enc : TypeId × Value → H) (F : Stop.Interp) :
    ReturnsInHanded {} Tryd.checked os 3 .any ((OpenSpec.ofChange Rows.fnExactPutMarkSpec).preRow enc Tryd.prog Tryd.f3 Rows.fnExactPutMarkRow.domain false Rows.fnExactPutMarkRow.laid) (((OpenSpec.ofChange Rows.fnExactPutMarkSpec).at F).post enc Tryd.prog Tryd.f3 false true false false) := by
  refine returnsInHanded_of_row (C := Tryd.checked) (s := OpenSpec.ofChange Rows.fnExactPutMarkSpec) own started (by kernel_rfl) Tryd.func3
    (witness_row_atRef (enc := enc) (C := Tryd.checked) false (laidWorld os) #[.agg #[.slice none 0 0, .slice none 0 0], .agg #[.string ⟨#[]⟩, .int .i64 0, .bool false]] rfl (by kernel_rfl) (by kernel_rfl) (by kernel_rfl) (witness_row os enc)) ?_
  intro W base args ds gs before hval0 hW _ _ _ hL _ _
  have hval : ∀ (j : Nat) t v, Tryd.f3.params[j]? = some t → args[j]? = some v → Value.okWide Tryd.prog W .any base t v := hval0
  have hW' := hW
  obtain ⟨p, q, hA0, hV, rfl, hfz, hnd⟩ := hW
  have hA : DataW.TrodAll enc Tryd.prog W 0 (fun _ => true) true Tryd.f3.params.toList args.toList ds p := hA0
  rw [Tryd.params3] at hA hval
  obtain ⟨v0, vs0, d0, ds0, p0, q0, hargs, rfl, rfl, h0, r0⟩ := trodAll_cons hA
  obtain ⟨v1, vs1, d1, ds1, p1, q1, rfl, rfl, rfl, h1, r1⟩ := trodAll_cons r0
  obtain ⟨rfl, rfl, rfl⟩ := trodAll_nil r1
  obtain rfl : args = #[v0, v1] := by cases args; simp_all
  have hV' := hV
  obtain ⟨rfl, rfl⟩ := trodVars_none hV
  have htab := tabs_met hL
  have k0 := h0
  have lt0 : ∀ x ∈ p0, x.block < W.heap.size := by obtain ⟨m, hm⟩ := k0; exact DataW.trod_lt m _ _ _ hm
  obtain ⟨fuel0, hf0⟩ := h0
  obtain ⟨cs0, rfl, hz0⟩ := okWide_struct Tryd.underlying25 (hval 0 25 v0 rfl rfl)
  obtain ⟨x0, hr0, hg0⟩ := arg_agg (loc := loc0) (l := [(.row e_siiii), (.row e_sib)]) (fun _ => rfl) 6 (by kernel_rfl) hf0
  have k1 := h1
  have lt1 : ∀ x ∈ p1, x.block < W.heap.size := by obtain ⟨m, hm⟩ := k1; exact DataW.trod_lt m _ _ _ hm
  obtain ⟨fuel1, hf1⟩ := h1
  obtain ⟨cs1, rfl, hz1⟩ := okWide_struct Tryd.underlying27 (hval 1 27 v1 rfl rfl)
  obtain ⟨x1, hr1, hg1⟩ := arg_agg (loc := loc0) (l := [.str, (.int .i64), .bool]) (fun _ => rfl) 6 (by kernel_rfl) hf1
  obtain ⟨kk, h⟩ := pure_FnExactPutMark (x0.1) (x0.2.1) (x1.1) (x1.2.1) (x1.2.2.1) (hg0.1) (hg0.2.1) (hg1.1) (hg1.2.1) (hg1.2.2.1)
  refine (law_calls (E := E) (ext := ext) (loc := loc0) (f := 3) (x := true) bldOk named mixed ext_ok Tryd.func3 rfl h rfl (fun _ _ h => h) (hg := ⟨htab, fun b hb => by
    rcases hb with rfl | rfl
    · exact cell_in (htab.1 0 (by omega))
    · exact cell_in (htab.2 0 (by omega)).1⟩) (args := #[_, _]) ⟨hr0, ⟨hr1, trivial⟩⟩).mono fun e W' ⟨he, bel⟩ => ?_
  subst he
  exact ⟨_, rfl, _, _, _, [], _, [], hW', trodAll_mk1 (shut_bool Tryd.underlying4 _), (trodAll_cons_mk (Below.trod laidOut (by kernel_rfl) (of_decide_eq_true (by kernel_rfl)) k0 bel lt0) (trodAll_cons_mk (Below.trod laidOut (by kernel_rfl) (of_decide_eq_true (by kernel_rfl)) k1 bel lt1) trodAll_mk0)), rfl, bel.frame _, fun h => by cases h⟩
theorem over : Rows.FnExactPutMarkSaid :=
  OpenClaim.holds_of_cond 3 Tryd.f3 rfl rfl rfl rfl rfl rfl rfl ⟨rfl, rfl, rfl, rfl, rfl⟩ rfl rfl rfl rfl rfl (by kernel_rfl) Tryd.func3 (by kernel_rfl)
    (of_decide_eq_true (by kernel_rfl)) (by unfold Func.isWrapper; first | (rw [if_pos (by decide +kernel)]; kernel_rfl) | (rw [if_neg (by decide +kernel)]; exact ⟨rfl, rfl⟩))
    (fun os started H enc _ F0 => by rw [OpenClaim.pre_eq_preRow]; exact lifted os started H enc F0)
theorem proved : Rows.FnExactPutMarkCardSaid :=
  Claim7.holds_tied_plain_at .later [] [.data, .pinned] true (true, "f944dfc5a3e8887e9d48d3bac905e253247cb9e21d2ddb58a9336daaa5cd173b") false
    over (fun _ h => by cases h) (by kernel_rfl) (fun _ h => by cases h) fnExactPutMark_row_tie rfl ⟨rfl, rfl⟩ (by kernel_rfl) rfl
    (fun f fn hf hfn => by
      obtain rfl : f = 3 := Option.some.inj ((show Tryd.prog.funcNamed "loop.example/g00044/laws.FnExactPutMark" = some 3 by kernel_rfl).symm.trans hf) |>.symm
      obtain rfl : fn = Tryd.f3 := (Option.some.inj (Tryd.func3.symm.trans hfn)).symm
      exact ⟨by kernel_rfl, fun j t ht => by
        rw [Tryd.params3] at ht
        have hm : t ∈ [25, 27] := by
          have := Array.mem_of_getElem? ht
          simpa using this
        have hall : ∀ u ∈ [25, 27], Tryd.prog.wantsStandIn u = false := by
          intro u hu
          simp only [List.mem_cons, List.not_mem_nil, or_false] at hu
          rcases hu with rfl | rfl
          all_goals kernel_rfl
        exact hall t hm⟩)
    (by kernel_rfl)
#print axioms proved
end Go.Proofs.YtfbhkkedmfbgbaaDoor.fnExactPutMark
namespace Go.Proofs.YtfbhkkedmfbgbaaDoor
theorem fnExactPutMark_holds : Rows.FnExactPutMarkCardSaid := fnExactPutMark.proved
end Go.Proofs.YtfbhkkedmfbgbaaDoor
