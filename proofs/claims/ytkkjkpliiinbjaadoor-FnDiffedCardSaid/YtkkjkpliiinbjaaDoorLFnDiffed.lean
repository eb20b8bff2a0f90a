/- The given statement FnDiffed: at every argument the law returns true and leaves its arguments as they were, where the two tables of unicode/utf8 lie as the program lays them. No other condition. -/
import Derived.Test.YtkkjkpliiinbjaaDoorRows
import Derived.Test.YtkkjkpliiinbjaaDoorTie
import Derived.Test.YtkkjkpliiinbjaaDoorCards
import Derived.Test.YtkkjkpliiinbjaaDoorPFnDiffed
import Derived.Test.YtkkjkpliiinbjaaDoorLW
import Derived.Test.YtkkjkpliiinbjaaDoorLEDF
import Derived.WalkKit
import Derived.ProofKit
import Derived.OpenShut
import Derived.ShutString
import Derived.ChangeOld
import Derived.Below
import Derived.SizedLaws
import Derived.WideShapes
import Derived.ChangeArms
import Derived.ChangeAt
import Derived.Lib.LaidIn
import Derived.Deep.DeepHandedRow
import Derived.Deep.DeepWitnessRowRef
import Derived.SevenTiedAt
namespace Go.Proofs.YtkkjkpliiinbjaaDoor.fnDiffed
open Go.ChangeShapes Go.WideShapes Go.ChangeAt Go.RowKit Go.Eng Go.Proofs.YtkkjkpliiinbjaaDoor.DF
open Go.ChangeMaps (open_string shut_string)
set_option linter.unusedVariables false
set_option maxRecDepth 100000
theorem own : ownKnob Tryd.prog.godebug = none := by kernel_rfl
theorem laidOut : laidOutB Tryd.prog = true := by kernel_rfl
noncomputable def loc0 : Nat → Go.Eng.Loc := fun _ => { a := none, len := 0, cap := 0, sz := 0 }
theorem witness_row (os : Os) {H : Type} (enc : TypeId × Value → H) :
    (OpenSpec.ofChange Rows.fnDiffedSpec).preRow enc Tryd.prog Tryd.f6 Rows.fnDiffedRow.domain false Rows.fnDiffedRow.laid ((laidWorld os).forCall (fun _ _ => 0) ⟨#[], #[.slice none 0 0], []⟩).memory #[.slice none 0 0] := by
  have hw : (DataW.whole enc Tryd.prog ((laidWorld os).forCall (fun _ _ => 0) ⟨#[], #[.slice none 0 0], []⟩).memory Tryd.f6.params.toList (OpenSpec.ofChange Rows.fnDiffedSpec).vars false (#[.slice none 0 0] : Array Value).toList 8).map (fun x => (x.1, x.2.1)) =
      some ([.nil], []) := by kernel_rfl
  obtain ⟨⟨x1, x2, x3⟩, hx, hx1⟩ := Option.map_eq_some_iff.1 hw
  simp only [Prod.mk.injEq] at hx1
  obtain ⟨rfl, rfl⟩ := hx1
  exact OpenSpec.preRow_of_cond 8 hx (by kernel_rfl) (fun k hk => by cases hk) (by kernel_rfl) (laid_met os _)
set_option maxHeartbeats 2000000 in
theorem lifted (os : Os) (started : os.Started) (H : Type) (enc : TypeId × Value → H) (F : Stop.Interp) :
    ReturnsInHanded {} Tryd.checked os 6 .any ((OpenSpec.ofChange Rows.fnDiffedSpec).preRow enc Tryd.prog Tryd.f6 Rows.fnDiffedRow.domain false Rows.fnDiffedRow.laid) (((OpenSpec.ofChange Rows.fnDiffedSpec).at F).post enc Tryd.prog Tryd.f6 false true false false) := by
  refine returnsInHanded_of_row (C := Tryd.checked) (s := OpenSpec.ofChange Rows.fnDiffedSpec) own started (by kernel_rfl) Tryd.func6
    (witness_row_atRef (enc := enc) (C := Tryd.checked) false (laidWorld os) #[.slice none 0 0] rfl (by kernel_rfl) (by kernel_rfl) (by kernel_rfl) (witness_row os enc)) ?_
  intro W base args ds gs before hval0 hW _ _ _ hL _ _
  have hval : ∀ (j : Nat) t v, Tryd.f6.params[j]? = some t → args[j]? = some v → Value.okWide Tryd.prog W .any base t v := hval0
  have hW' := hW
  obtain ⟨p, q, hA0, hV, rfl, hfz, hnd⟩ := hW
  have hA : DataW.TrodAll enc Tryd.prog W 0 (fun _ => true) true Tryd.f6.params.toList args.toList ds p := hA0
  rw [Tryd.params6] at hA hval
  obtain ⟨v0, vs0, d0, ds0, p0, q0, hargs, rfl, rfl, h0, r0⟩ := trodAll_cons hA
  obtain ⟨rfl, rfl, rfl⟩ := trodAll_nil r0
  obtain rfl : args = #[v0] := by cases args; simp_all
  obtain ⟨rfl, rfl⟩ := trodVars_none hV
  have htab := tabs_met hL
  have k0 := h0
  have lt0 : ∀ x ∈ p0, x.block < W.heap.size := by obtain ⟨m, hm⟩ := k0; exact DataW.trod_lt m _ _ _ hm
  obtain ⟨fuel0, hf0⟩ := h0
  obtain ⟨az0, lz0, cz0, rfl⟩ := okWide_slice Tryd.underlying27 (hval 0 27 v0 rfl rfl)
  letI : Glb := glbA (.slice az0 lz0 cz0)
  obtain ⟨x0, hr0, hg0⟩ := arg_one (loc := loc0) (c := (.row e_y)) (fun _ => rfl) 6 (by kernel_rfl) rfl hf0
  have hrc : Rep W (inHeap W) loc0 (.rc 0 e_y x0.1) (.slice az0 lz0 cz0) := ⟨rfl, rfl, hr0⟩
  have hin : ∀ ad l c, (Value.slice az0 lz0 cz0) = .slice (some ad) l c → 0 < c → ad.block < W.heap.size := fun ad l c he hc => by
    obtain ⟨a, cap, h3, _, _, h6⟩ := (hr0 : CT.Cell W (inHeap W) (.row e_y) _ x0.1)
    rw [he] at h3
    injection h3 with e1 e2 e3
    subst e1 e3
    exact ((h6 hc).2.2 ad rfl).2.1
  obtain ⟨kk, h⟩ := pure_FnDiffed (x0.1) (hg0.1)
  refine (law_calls (E := E) (ext := ext) (loc := loc0) (f := 6) (x := true) (bldOk _) named mixed (ext_ok _) Tryd.func6 rfl h rfl (fun _ _ h => h) (hg := ⟨htab, fun b hb => by
    rcases hb with (rfl | rfl) | ⟨ad, l, c, he, hc, rfl⟩
    · exact cell_in (htab.1 0 (by omega))
    · exact cell_in (htab.2 0 (by omega)).1
    · exact hin ad l c he hc⟩) (args := #[_]) ⟨hrc, trivial⟩).mono fun e W' ⟨he, bel⟩ => ?_
  subst he
  exact ⟨_, rfl, _, _, _, [], _, [], hW', trodAll_mk1 (shut_bool Tryd.underlying4 _), (trodAll_cons_mk (Below.trod laidOut (by kernel_rfl) (of_decide_eq_true (by kernel_rfl)) k0 bel lt0) trodAll_mk0), rfl, bel.frame _, fun h => by cases h⟩
theorem over : Rows.FnDiffedSaid :=
  OpenClaim.holds_of_cond 6 Tryd.f6 rfl rfl rfl rfl rfl rfl rfl ⟨rfl, rfl, rfl, rfl, rfl⟩ rfl rfl rfl rfl rfl (by kernel_rfl) Tryd.func6 (by kernel_rfl)
    (of_decide_eq_true (by kernel_rfl)) (by unfold Func.isWrapper; first | (rw [if_pos (by decide +kernel)]; kernel_rfl) | (rw [if_neg (by decide +kernel)]; exact ⟨rfl, rfl⟩))
    (fun os started H enc _ F0 => by rw [OpenClaim.pre_eq_preRow]; exact lifted os started H enc F0)
theorem proved : Rows.FnDiffedCardSaid :=
  Claim7.holds_tied_plain_at .later [] [.data, .pinned] true (true, "577be8788ad72c3ea5c8fdbc21aa75705c9752065a91474da3bf7ea0a6750bcf") false
    over (fun _ h => by cases h) (by kernel_rfl) (fun _ h => by cases h) fnDiffed_row_tie rfl ⟨rfl, rfl⟩ (by kernel_rfl) rfl
    (fun f fn hf hfn => by
      obtain rfl : f = 6 := Option.some.inj ((show Tryd.prog.funcNamed "loop.example/g00044/laws.FnDiffed" = some 6 by kernel_rfl).symm.trans hf) |>.symm
      obtain rfl : fn = Tryd.f6 := (Option.some.inj (Tryd.func6.symm.trans hfn)).symm
      exact ⟨by kernel_rfl, fun j t ht => by
        rw [Tryd.params6] at ht
        have hm : t ∈ [27] := by
          have := Array.mem_of_getElem? ht
          simpa using this
        have hall : ∀ u ∈ [27], Tryd.prog.wantsStandIn u = false := by
          intro u hu
          simp only [List.mem_cons, List.not_mem_nil, or_false] at hu
          subst hu
          kernel_rfl
        exact hall t hm⟩)
    (by kernel_rfl)
#print axioms proved
end Go.Proofs.YtkkjkpliiinbjaaDoor.fnDiffed
namespace Go.Proofs.YtkkjkpliiinbjaaDoor
theorem fnDiffed_holds : Rows.FnDiffedCardSaid := fnDiffed.proved
end Go.Proofs.YtkkjkpliiinbjaaDoor
