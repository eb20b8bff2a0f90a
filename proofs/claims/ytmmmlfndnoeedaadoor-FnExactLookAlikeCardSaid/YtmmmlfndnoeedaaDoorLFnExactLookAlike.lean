/- The given statement FnExactLookAlike: at every argument the law returns true and leaves its arguments as they were, where the two tables of unicode/utf8 lie as the program lays them. No other condition. -/
import Derived.Test.YtmmmlfndnoeedaaDoorRows
import Derived.Test.YtmmmlfndnoeedaaDoorTie
import Derived.Test.YtmmmlfndnoeedaaDoorCards
import Derived.Test.YtmmmlfndnoeedaaDoorPSkel
import Derived.Test.YtmmmlfndnoeedaaDoorLV
import Derived.Test.YtmmmlfndnoeedaaDoorLEIX
import Derived.WalkKit
import Derived.ProofKit
import Derived.OpenShut
import Derived.OpenVars
import Derived.ChangeVars
import Derived.ShutString
import Derived.ChangeOld
import Derived.Below
import Derived.SizedLaws
import Derived.WideShapes
import Derived.ChangeArms
import Derived.ChangeAt
import Derived.Lib.LaidIn
import Derived.Deep.DeepHandedRow
import Derived.Deep.DeepWitnessRowRef
import Derived.SevenTiedAt
namespace Go.Proofs.YtmmmlfndnoeedaaDoor.fnExactLookAlike
open Go.ChangeShapes Go.WideShapes Go.ChangeAt Go.RowKit Go.Eng Go.Proofs.YtmmmlfndnoeedaaDoor.IX
open Go.ChangeMaps (open_string shut_string)
set_option linter.unusedVariables false
set_option maxRecDepth 100000
theorem own : ownKnob Tryd.prog.godebug = none := by kernel_rfl
theorem laidOut : laidOutB Tryd.prog = true := by kernel_rfl
noncomputable def loc0 : Nat → Go.Eng.Loc := fun _ => { a := none, len := 0, cap := 0, sz := 0 }
theorem witness_row (os : Os) {H : Type} (enc : TypeId × Value → H) :
    (OpenSpec.ofChange Rows.fnExactLookAlikeSpec).preRow enc Tryd.prog Tryd.f5 Rows.fnExactLookAlikeRow.domain false Rows.fnExactLookAlikeRow.laid ((laidWorldV os).forCall (fun _ _ => 0) ⟨#[], #[.string ⟨#[]⟩, .string ⟨#[]⟩], []⟩).memory #[.string ⟨#[]⟩, .string ⟨#[]⟩] := by
  have hw : (DataW.whole enc Tryd.prog ((laidWorldV os).forCall (fun _ _ => 0) ⟨#[], #[.string ⟨#[]⟩, .string ⟨#[]⟩], []⟩).memory Tryd.f5.params.toList (OpenSpec.ofChange Rows.fnExactLookAlikeSpec).vars false (#[.string ⟨#[]⟩, .string ⟨#[]⟩] : Array Value).toList 8).map (fun x => (x.1, x.2.1)) =
      some ([.lit (.string []), .lit (.string [])], [Rows.laid_loop_example_g00044_impl_digitRows]) := by kernel_rfl
  obtain ⟨⟨x1, x2, x3⟩, hx, hx1⟩ := Option.map_eq_some_iff.1 hw
  simp only [Prod.mk.injEq] at hx1
  obtain ⟨rfl, rfl⟩ := hx1
  exact OpenSpec.preRow_of_cond 8 hx (by kernel_rfl) (fun k hk => by cases hk) (by kernel_rfl) (laid_metV os _)
set_option maxHeartbeats 2000000 in
theorem lifted (os : Os) (started : os.Started) (H : Type) (enc : TypeId × Value → H) (F : Stop.Interp) :
    ReturnsInHanded {} Tryd.checked os 5 .any ((OpenSpec.ofChange Rows.fnExactLookAlikeSpec).preRow enc Tryd.prog Tryd.f5 Rows.fnExactLookAlikeRow.domain false Rows.fnExactLookAlikeRow.laid) (((OpenSpec.ofChange Rows.fnExactLookAlikeSpec).at F).post enc Tryd.prog Tryd.f5 false true false false) := by
  refine returnsInHanded_of_row (C := Tryd.checked) (s := OpenSpec.ofChange Rows.fnExactLookAlikeSpec) own started (by kernel_rfl) Tryd.func5
    (witness_row_atRef (enc := enc) (C := Tryd.checked) false (laidWorldV os) #[.string ⟨#[]⟩, .string ⟨#[]⟩] rfl (by kernel_rfl) (by kernel_rfl) (by kernel_rfl) (witness_row os enc)) ?_
  intro W base args ds gs before hval0 hW _ _ _ hL _ _
  have hval : ∀ (j : Nat) t v, Tryd.f5.params[j]? = some t → args[j]? = some v → Value.okWide Tryd.prog W .any base t v := hval0
  have hW' := hW
  obtain ⟨p, q, hA0, hV, rfl, hfz, hnd⟩ := hW
  have hA : DataW.TrodAll enc Tryd.prog W 0 (fun _ => true) true Tryd.f5.params.toList args.toList ds p := hA0
  rw [Tryd.params5] at hA hval
  obtain ⟨v0, vs0, d0, ds0, p0, q0, hargs, rfl, rfl, h0, r0⟩ := trodAll_cons hA
  obtain ⟨v1, vs1, d1, ds1, p1, q1, rfl, rfl, rfl, h1, r1⟩ := trodAll_cons r0
  obtain ⟨rfl, rfl, rfl⟩ := trodAll_nil r1
  obtain rfl : args = #[v0, v1] := by cases args; simp_all
  have hV' := hV
  obtain ⟨_, _, _, _, gd, _, rfl, _⟩ := trodVars_one hV
  have htab := tabs_metV hL
  obtain ⟨vv, hvar⟩ := var_met hL
  letI : Glb := glbV vv
  have hin : ∀ ad l c, vv = .slice (some ad) l c → 0 < c → ad.block < W.heap.size := fun ad l c he hc => by
    obtain ⟨a, cap, h3, _, _, h6⟩ := hvar.2
    rw [he] at h3
    injection h3 with e1 e2 e3
    subst e1 e3
    obtain ⟨_, _, _, _, _, h7, _⟩ := (h6 hc).2.2 ad rfl
    exact (Array.getElem?_eq_some_iff.1 h7).1
  have hgb : 2 < W.heap.size := by
    obtain ⟨_, _, _, h7, _⟩ := hvar.1
    exact (Array.getElem?_eq_some_iff.1 h7).1
  have k0 := h0
  have lt0 : ∀ x ∈ p0, x.block < W.heap.size := by obtain ⟨m, hm⟩ := k0; exact DataW.trod_lt m _ _ _ hm
  obtain ⟨fuel0, hf0⟩ := h0
  obtain ⟨sz0, rfl⟩ := okWide_string Tryd.underlying9 (hval 0 9 v0 rfl rfl)
  obtain ⟨x0, hr0, hg0⟩ := arg_one (loc := loc0) (c := .str) (fun _ => rfl) 6 (by kernel_rfl) rfl hf0
  have k1 := h1
  have lt1 : ∀ x ∈ p1, x.block < W.heap.size := by obtain ⟨m, hm⟩ := k1; exact DataW.trod_lt m _ _ _ hm
  obtain ⟨fuel1, hf1⟩ := h1
  obtain ⟨sz1, rfl⟩ := okWide_string Tryd.underlying9 (hval 1 9 v1 rfl rfl)
  obtain ⟨x1, hr1, hg1⟩ := arg_one (loc := loc0) (c := .str) (fun _ => rfl) 6 (by kernel_rfl) rfl hf1
  obtain ⟨kk, h⟩ := pure_FnExactLookAlike (x0.1) (x1.1) (hg0.1) (hg1.1)
  refine (law_calls (E := E) (ext := ext) (loc := loc0) (f := 5) (x := true) (bldOk _) named mixed (ext_ok _) Tryd.func5 rfl h rfl (fun _ _ h => h) (hg := ⟨⟨htab, hvar⟩, fun b hb => by
    rcases hb with ((rfl | rfl) | rfl) | ⟨ad, l, c, he, hc, rfl⟩
    · exact cell_in (htab.1 0 (by omega))
    · exact cell_in (htab.2 0 (by omega)).1
    · exact hgb
    · exact hin ad l c he hc⟩) (args := #[_, _]) ⟨hr0, ⟨hr1, trivial⟩⟩).mono fun e W' ⟨he, bel⟩ => ?_
  subst he
  exact ⟨_, rfl, _, _, _, [], _, _, hW', trodAll_mk1 (shut_bool Tryd.underlying4 _), (trodAll_cons_mk (Below.trod laidOut (by kernel_rfl) (of_decide_eq_true (by kernel_rfl)) k0 bel lt0) (trodAll_cons_mk (Below.trod laidOut (by kernel_rfl) (of_decide_eq_true (by kernel_rfl)) k1 bel lt1) trodAll_mk0)), Below.trodVars laidOut bel (by kernel_rfl) hV', bel.frame _, fun h => by cases h⟩
theorem over : Rows.FnExactLookAlikeSaid :=
  OpenClaim.holds_of_cond 5 Tryd.f5 rfl rfl rfl rfl rfl rfl rfl ⟨rfl, rfl, rfl, rfl, rfl⟩ rfl rfl rfl rfl rfl (by kernel_rfl) Tryd.func5 (by kernel_rfl)
    (of_decide_eq_true (by kernel_rfl)) (by unfold Func.isWrapper; first | (rw [if_pos (by decide +kernel)]; kernel_rfl) | (rw [if_neg (by decide +kernel)]; exact ⟨rfl, rfl⟩))
    (fun os started H enc _ F0 => by rw [OpenClaim.pre_eq_preRow]; exact lifted os started H enc F0)
theorem proved : Rows.FnExactLookAlikeCardSaid :=
  Claim7.holds_tied_plain_at .later [] [.data, .data, .pinned] true (true, "a4cd2be7fc220dff9b244525039408722642e08504f5b3ef019ecf55ac61948f") false
    over (fun _ h => by cases h) (by kernel_rfl) (fun _ h => by cases h) fnExactLookAlike_row_tie rfl ⟨rfl, rfl⟩ (by kernel_rfl) rfl
    (fun f fn hf hfn => by
      obtain rfl : f = 5 := Option.some.inj ((show Tryd.prog.funcNamed "loop.example/g00044/laws.FnExactLookAlike" = some 5 by kernel_rfl).symm.trans hf) |>.symm
      obtain rfl : fn = Tryd.f5 := (Option.some.inj (Tryd.func5.symm.trans hfn)).symm
      exact ⟨by kernel_rfl, fun j t ht => by
        rw [Tryd.params5] at ht
        have hm : t ∈ [9, 9] := by
          have := Array.mem_of_getElem? ht
          simpa using this
        have hall : ∀ u ∈ [9, 9], Tryd.prog.wantsStandIn u = false := by
          intro u hu
          simp only [List.mem_cons, List.not_mem_nil, or_false] at hu
          rcases hu with rfl | rfl
          all_goals kernel_rfl
        exact hall t hm⟩)
    (by kernel_rfl)
#print axioms proved
end Go.Proofs.YtmmmlfndnoeedaaDoor.fnExactLookAlike
namespace Go.Proofs.YtmmmlfndnoeedaaDoor
theorem fnExactLookAlike_holds : Rows.FnExactLookAlikeCardSaid := fnExactLookAlike.proved
end Go.Proofs.YtmmmlfndnoeedaaDoor
