/- The given statement FnMarked: at every argument the law returns true and leaves its arguments as they were, where the two tables of unicode/utf8 lie as the program lays them. No other condition. -/
import Derived.Test.YtfbhkkedmfbgbaaDoorRows
import Derived.Test.YtfbhkkedmfbgbaaDoorTie
import Derived.Test.YtfbhkkedmfbgbaaDoorCards
import Derived.Test.YtfbhkkedmfbgbaaDoorPMarkedL
import Derived.Test.YtfbhkkedmfbgbaaDoorLW
import Derived.Test.YtfbhkkedmfbgbaaDoorLEPMA
import Derived.WalkKit
import Derived.ProofKit
import Derived.OpenShut
import Derived.OpenVars
import Derived.ChangeVars
import Derived.ShutString
import Derived.ChangeOld
import Derived.Below
import Derived.SizedLaws
import Derived.WideShapes
import Derived.ChangeArms
import Derived.ChangeAt
import Derived.Lib.LaidIn
import Derived.Deep.DeepHandedRow
import Derived.Deep.DeepWitnessRowRef
import Derived.SevenTiedAt
namespace Go.Proofs.YtfbhkkedmfbgbaaDoor.fnMarked
open Go.ChangeShapes Go.WideShapes Go.ChangeAt Go.RowKit Go.Eng Go.Proofs.YtfbhkkedmfbgbaaDoor.PM
open Go.ChangeMaps (open_string shut_string)
set_option linter.unusedVariables false
set_option maxRecDepth 100000
theorem own : ownKnob Tryd.prog.godebug = none := by kernel_rfl
theorem laidOut : laidOutB Tryd.prog = true := by kernel_rfl
noncomputable def loc0 : Nat → Go.Eng.Loc := fun _ => { a := none, len := 0, cap := 0, sz := 0 }
theorem witness_row (os : Os) {H : Type} (enc : TypeId × Value → H) :
    (OpenSpec.ofChange Rows.fnMarkedSpec).preRow enc Tryd.prog Tryd.f4 Rows.fnMarkedRow.domain false Rows.fnMarkedRow.laid ((laidWorld os).forCall (fun _ _ => 0) ⟨#[], #[.slice none 0 0], []⟩).memory #[.slice none 0 0] := by
  have hw : (DataW.whole enc Tryd.prog ((laidWorld os).forCall (fun _ _ => 0) ⟨#[], #[.slice none 0 0], []⟩).memory Tryd.f4.params.toList (OpenSpec.ofChange Rows.fnMarkedSpec).vars false (#[.slice none 0 0] : Array Value).toList 8).map (fun x => (x.1, x.2.1)) =
      some ([.nil], []) := by kernel_rfl
  obtain ⟨⟨x1, x2, x3⟩, hx, hx1⟩ := Option.map_eq_some_iff.1 hw
  simp only [Prod.mk.injEq] at hx1
  obtain ⟨rfl, rfl⟩ := hx1
  exact OpenSpec.preRow_of_cond 8 hx (by kernel_rfl) (fun k hk => by cases hk) (by kernel_rfl) (laid_met os _)
set_option maxHeartbeats 2000000 in
theorem lifted (os : Os) (started : os.Started) (H : Type) (enc : TypeId × Value → H) (F : Stop.Interp) :
    ReturnsInHanded {} Tryd.checked os 4 .any ((OpenSpec.ofChange Rows.fnMarkedSpec).preRow enc Tryd.prog Tryd.f4 Rows.fnMarkedRow.domain false Rows.fnMarkedRow.laid) (((OpenSpec.ofChange Rows.fnMarkedSpec).at F).post enc Tryd.prog Tryd.f4 false true false false) := by
  refine returnsInHanded_of_row (C := Tryd.checked) (s := OpenSpec.ofChange Rows.fnMarkedSpec) own started (by kernel_rfl) Tryd.func4
    (witness_row_atRef (enc := enc) (C := Tryd.checked) false (laidWorld os) #[.slice none 0 0] rfl (by kernel_rfl) (by kernel_rfl) (by kernel_rfl) (witness_row os enc)) ?_
  intro W base args ds gs before hval0 hW _ _ _ hL _ _
  have hval : ∀ (j : Nat) t v, Tryd.f4.params[j]? = some t → args[j]? = some v → Value.okWide Tryd.prog W .any base t v := hval0
  have hW' := hW
  obtain ⟨p, q, hA0, hV, rfl, hfz, hnd⟩ := hW
  have hA : DataW.TrodAll enc Tryd.prog W 0 (fun _ => true) true Tryd.f4.params.toList args.toList ds p := hA0
  rw [Tryd.params4] at hA hval
  obtain ⟨v0, vs0, d0, ds0, p0, q0, hargs, rfl, rfl, h0, r0⟩ := trodAll_cons hA
  obtain ⟨rfl, rfl, rfl⟩ := trodAll_nil r0
  obtain rfl : args = #[v0] := by cases args; simp_all
  have hV' := hV
  obtain ⟨rfl, rfl⟩ := trodVars_none hV
  have htab := tabs_met hL
  have k0 := h0
  have lt0 : ∀ x ∈ p0, x.block < W.heap.size := by obtain ⟨m, hm⟩ := k0; exact DataW.trod_lt m _ _ _ hm
  obtain ⟨fuel0, hf0⟩ := h0
  obtain ⟨az0, lz0, cz0, rfl⟩ := okWide_slice Tryd.underlying45 (hval 0 45 v0 rfl rfl)
  letI : Glb := glbA (.slice az0 lz0 cz0)
  obtain ⟨x0, hr0, hg0⟩ := arg_one (loc := loc0) (c := (.row e_y)) (fun _ => rfl) 6 (by kernel_rfl) rfl hf0
  have hrc : Rep W (inHeap W) loc0 (.rc 0 e_y x0.1) (.slice az0 lz0 cz0) := ⟨rfl, rfl, hr0⟩
  have hin : ∀ ad l c, (Value.slice az0 lz0 cz0) = .slice (some ad) l c → 0 < c → ad.block < W.heap.size := fun ad l c he hc => by
    obtain ⟨a, cap, h3, _, _, h6⟩ := (hr0 : CT.Cell W (inHeap W) (.row e_y) _ x0.1)
    rw [he] at h3
    injection h3 with e1 e2 e3
    subst e1 e3
    exact ((h6 hc).2.2 ad rfl).2.1
  obtain ⟨kk, h⟩ := pure_FnMarked (x0.1) (hg0.1)
  refine (law_calls (E := E) (ext := ext) (loc := loc0) (f := 4) (x := true) (bldOk _) named mixed (ext_ok _) Tryd.func4 rfl h rfl (fun _ _ h => h) (hg := ⟨htab, fun b hb => by
    rcases hb with (rfl | rfl) | ⟨ad, l, c, he, hc, rfl⟩
    · exact cell_in (htab.1 0 (by omega))
    · exact cell_in (htab.2 0 (by omega)).1
    · exact hin ad l c he hc⟩) (args := #[_]) ⟨hrc, trivial⟩).mono fun e W' ⟨he, bel⟩ => ?_
  subst he
  exact ⟨_, rfl, _, _, _, [], _, [], hW', trodAll_mk1 (shut_bool Tryd.underlying4 _), (trodAll_cons_mk (Below.trod laidOut (by kernel_rfl) (of_decide_eq_true (by kernel_rfl)) k0 bel lt0) trodAll_mk0), rfl, bel.frame _, fun h => by cases h⟩
theorem over : Rows.FnMarkedSaid :=
  OpenClaim.holds_of_cond 4 Tryd.f4 rfl rfl rfl rfl rfl rfl rfl ⟨rfl, rfl, rfl, rfl, rfl⟩ rfl rfl rfl rfl rfl (by kernel_rfl) Tryd.func4 (by kernel_rfl)
    (of_decide_eq_true (by kernel_rfl)) (by unfold Func.isWrapper; first | (rw [if_pos (by decide +kernel)]; kernel_rfl) | (rw [if_neg (by decide +kernel)]; exact ⟨rfl, rfl⟩))
    (fun os started H enc _ F0 => by rw [OpenClaim.pre_eq_preRow]; exact lifted os started H enc F0)
theorem proved : Rows.FnMarkedCardSaid :=
  Claim7.holds_tied_plain_at .later [] [.data, .pinned] true (true, "f944dfc5a3e8887e9d48d3bac905e253247cb9e21d2ddb58a9336daaa5cd173b") false
    over (fun _ h => by cases h) (by kernel_rfl) (fun _ h => by cases h) fnMarked_row_tie rfl ⟨rfl, rfl⟩ (by kernel_rfl) rfl
    (fun f fn hf hfn => by
      obtain rfl : f = 4 := Option.some.inj ((show Tryd.prog.funcNamed "loop.example/g00044/laws.FnMarked" = some 4 by kernel_rfl).symm.trans hf) |>.symm
      obtain rfl : fn = Tryd.f4 := (Option.some.inj (Tryd.func4.symm.trans hfn)).symm
      exact ⟨by kernel_rfl, fun j t ht => by
        rw [Tryd.params4] at ht
        have hm : t ∈ [45] := by
          have := Array.mem_of_getElem? ht
          simpa using this
        have hall : ∀ u ∈ [45], Tryd.prog.wantsStandIn u = false := by
          intro u hu
          simp only [List.mem_cons, List.not_mem_nil, or_false] at hu
          subst hu
          kernel_rfl
        exact hall t hm⟩)
    (by kernel_rfl)
#print axioms proved
end Go.Proofs.YtfbhkkedmfbgbaaDoor.fnMarked
namespace Go.Proofs.YtfbhkkedmfbgbaaDoor
theorem fnMarked_holds : Rows.FnMarkedCardSaid := fnMarked.proved
end Go.Proofs.YtfbhkkedmfbgbaaDoor
