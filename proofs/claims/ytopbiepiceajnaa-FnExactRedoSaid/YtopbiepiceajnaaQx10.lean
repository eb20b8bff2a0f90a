-- Written by xprint.py (wip/ of this repository): one Lean function and its proof for each Go function.
import Derived.Test.YtopbiepiceajnaaQx0
import Derived.Test.YtopbiepiceajnaaQx1
import Derived.Test.YtopbiepiceajnaaQx2
import Derived.Test.YtopbiepiceajnaaQx4
import Derived.Test.YtopbiepiceajnaaQx7
import Derived.Test.YtopbiepiceajnaaQx8
import Derived.Test.YtopbiepiceajnaaQx9
namespace Go.Proofs.Ytopbiepiceajnaa.Q
open Go.RowKit Go.Proofs.YtopbiepiceajnaaW.PrintWords Go.Proofs.YtopbiepiceajnaaW.PrintLast Go.Proofs.YtopbiepiceajnaaW.PrintMore
attribute [local go_sem] max2_int min2_int max_two min_two max_three min_three max_four min_four   -- for this text's walks alone
set_option linter.unusedVariables false
set_option linter.unusedSimpArgs false

/-! ### laws_FnExactRedo: function 8 -/
def laws_FnExactRedo.j0 : Nat → Bool → ByteArray → List (S96) → Int → Int → ByteArray → List (S68) → Int → ByteArray → Int → ByteArray → List (S68) → Int → ByteArray → Option (Bool)
  | 0, _, _, _, _, _, _, _, _, _, _, _, _, _, _ => none
  | k + 1, x42, x388000, x388001, x388002, x402000, x402001, x402002, x402003, x402004, x416000, x416001, x416002, x416003, x416004 => if x42 = true then (none) else ((laws_markHistoryOut.f k x416000 x416001 x416002 x416003 x416004 1).bind fun bt426 => ((laws_heldHistoryOut.f k x416000 x416001 bt426.2 x416003 x416004 1).bind fun t428 => (if t428 < 0 then (none) else (if t428 = bt426.1 then ((laws_toHistory.f k x388000 x388001 x388002).bind fun bt429 => ((impl_Redo.f k bt429.1 bt429.2.1 bt429.2.2).bind fun bt434 => ((laws_eqHistoryOut.f k bt434.1 bt434.2.1 bt434.2.2.1 bt434.2.2.2.1 bt434.2.2.2.2 x402000 x402001 x402002 x402003 x402004).bind fun t442 => (if t442 = true then ((laws_heldHistoryOut.f k x416000 x416001 bt426.2 x416003 x416004 1).bind fun t443 => (if t443 < 0 then (none) else (if t443 = bt426.1 then (some true) else (none)))) else (none))))) else (none)))))
def laws_FnExactRedo.f (k : Nat) (a0_0 : ByteArray) (l0_1 : List (S96)) (a0_2 : Int) : Option (Bool) := (laws_szHistory.f k a0_0 l0_1 a0_2 1048576).bind fun t388 => (if t388 < 0 then (some true) else ((laws_toHistory.f k a0_0 l0_1 a0_2).bind fun bt389 => ((spec_Redo.f k bt389.1 bt389.2.1 bt389.2.2).bind fun bt394 => ((laws_toHistory.f k a0_0 l0_1 a0_2).bind fun bt402 => ((impl_Redo.f k bt402.1 bt402.2.1 bt402.2.2).bind fun bt408 => ((laws_eqHistoryOut.f k bt408.1 bt408.2.1 bt408.2.2.1 bt408.2.2.2.1 bt408.2.2.2.2 bt394.1 bt394.2.1 bt394.2.2.1 bt394.2.2.2.1 bt394.2.2.2.2).bind fun t416 => (if t416 = true then ((laws_toHistory.f k a0_0 l0_1 a0_2).bind fun bt417 => ((laws_eqHistory.f k bt402.1 bt402.2.1 bt402.2.2 bt417.1 bt417.2.1 bt417.2.2).bind fun t422 => (if t422 = true then ((laws_markHistory.f k bt402.1 bt402.2.1 bt402.2.2 1).bind fun bt423 => (if bt423.1 < 0 then (laws_FnExactRedo.j0 k true a0_0 l0_1 a0_2 bt394.1 bt394.2.1 bt394.2.2.1 bt394.2.2.2.1 bt394.2.2.2.2 bt408.1 bt408.2.1 bt408.2.2.1 bt408.2.2.2.1 bt408.2.2.2.2) else ((laws_eqHistoryOut.f k bt408.1 bt408.2.1 bt408.2.2.1 bt408.2.2.2.1 bt408.2.2.2.2 bt394.1 bt394.2.1 bt394.2.2.1 bt394.2.2.2.1 bt394.2.2.2.2).bind fun t425 => (laws_FnExactRedo.j0 k (!t425) a0_0 l0_1 a0_2 bt394.1 bt394.2.1 bt394.2.2.1 bt394.2.2.2.1 bt394.2.2.2.2 bt408.1 bt408.2.1 bt408.2.2.1 bt408.2.2.2.1 bt408.2.2.2.2)))) else (none)))) else (none))))))))
theorem laws_FnExactRedo.mono_l : ∀ k, (∀ y0 y1 y2 y3 y4 y5 y6 y7 y8 y9 y10 y11 y12 y13, LeO (laws_FnExactRedo.j0 k y0 y1 y2 y3 y4 y5 y6 y7 y8 y9 y10 y11 y12 y13) (laws_FnExactRedo.j0 (k + 1) y0 y1 y2 y3 y4 y5 y6 y7 y8 y9 y10 y11 y12 y13))
  | 0 => fun _ _ _ _ _ _ _ _ _ _ _ _ _ _ r h => by simp [laws_FnExactRedo.j0] at h
  | k + 1 => by
    have ih0 := laws_FnExactRedo.mono_l k
    · intro y0 y1 y2 y3 y4 y5 y6 y7 y8 y9 y10 y11 y12 y13
      unfold laws_FnExactRedo.j0
      repeat' first
      | (with_reducible exact ih0 _ _ _ _ _ _ _ _ _ _ _ _ _ _)
      | (with_reducible exact impl_Redo.mono _ _ _ _)
      | (with_reducible exact laws_eqHistory.mono _ _ _ _ _ _ _)
      | (with_reducible exact laws_eqHistoryOut.mono _ _ _ _ _ _ _ _ _ _ _)
      | (with_reducible exact laws_heldHistoryOut.mono _ _ _ _ _ _ _)
      | (with_reducible exact laws_markHistory.mono _ _ _ _ _)
      | (with_reducible exact laws_markHistoryOut.mono _ _ _ _ _ _ _)
      | (with_reducible exact laws_szHistory.mono _ _ _ _ _)
      | (with_reducible exact laws_toHistory.mono _ _ _ _)
      | (with_reducible exact spec_Redo.mono _ _ _ _)
      | (with_reducible exact LeO.refl _)
      | (with_reducible exact LeO.none _)
      | (with_reducible refine LeO.ite ?_ ?_)
      | (with_reducible refine LeO.bind ?_ (fun _ => ?_))
      | exact ih0 _ _ _ _ _ _ _ _ _ _ _ _ _ _
      | exact impl_Redo.mono _ _ _ _
      | exact laws_eqHistory.mono _ _ _ _ _ _ _
      | exact laws_eqHistoryOut.mono _ _ _ _ _ _ _ _ _ _ _
      | exact laws_heldHistoryOut.mono _ _ _ _ _ _ _
      | exact laws_markHistory.mono _ _ _ _ _
      | exact laws_markHistoryOut.mono _ _ _ _ _ _ _
      | exact laws_szHistory.mono _ _ _ _ _
      | exact laws_toHistory.mono _ _ _ _
      | exact spec_Redo.mono _ _ _ _
      | exact LeO.none _
      | refine LeO.ite ?_ ?_
      | refine LeO.bind ?_ (fun _ => ?_)
theorem laws_FnExactRedo.mono : ∀ a0 a1 a2 k, LeO (laws_FnExactRedo.f k a0 a1 a2) (laws_FnExactRedo.f (k + 1) a0 a1 a2) := by
  intro a0 a1 a2 k
  have ih0 := laws_FnExactRedo.mono_l k
  unfold laws_FnExactRedo.f
  repeat' first
      | (with_reducible exact ih0 _ _ _ _ _ _ _ _ _ _ _ _ _ _)
      | (with_reducible exact impl_Redo.mono _ _ _ _)
      | (with_reducible exact laws_eqHistory.mono _ _ _ _ _ _ _)
      | (with_reducible exact laws_eqHistoryOut.mono _ _ _ _ _ _ _ _ _ _ _)
      | (with_reducible exact laws_heldHistoryOut.mono _ _ _ _ _ _ _)
      | (with_reducible exact laws_markHistory.mono _ _ _ _ _)
      | (with_reducible exact laws_markHistoryOut.mono _ _ _ _ _ _ _)
      | (with_reducible exact laws_szHistory.mono _ _ _ _ _)
      | (with_reducible exact laws_toHistory.mono _ _ _ _)
      | (with_reducible exact spec_Redo.mono _ _ _ _)
      | (with_reducible exact LeO.refl _)
      | (with_reducible exact LeO.none _)
      | (with_reducible refine LeO.ite ?_ ?_)
      | (with_reducible refine LeO.bind ?_ (fun _ => ?_))
      | exact ih0 _ _ _ _ _ _ _ _ _ _ _ _ _ _
      | exact impl_Redo.mono _ _ _ _
      | exact laws_eqHistory.mono _ _ _ _ _ _ _
      | exact laws_eqHistoryOut.mono _ _ _ _ _ _ _ _ _ _ _
      | exact laws_heldHistoryOut.mono _ _ _ _ _ _ _
      | exact laws_markHistory.mono _ _ _ _ _
      | exact laws_markHistoryOut.mono _ _ _ _ _ _ _
      | exact laws_szHistory.mono _ _ _ _ _
      | exact laws_toHistory.mono _ _ _ _
      | exact spec_Redo.mono _ _ _ _
      | exact LeO.none _
      | refine LeO.ite ?_ ?_
      | refine LeO.bind ?_ (fun _ => ?_)
set_option maxHeartbeats 8000000 in
set_option maxRecDepth 100000 in
theorem laws_FnExactRedo.calls (k : Nat) (a0_0 : ByteArray) (A0_1 : Option Addr) (c0_1 : Nat) (l0_1 : List (S96)) (a0_2 : Int) (r : Bool) (w : World) (hr0_1 : Kd.C k96 w A0_1 l0_1.length l0_1) (hc0_1 : l0_1.length ≤ c0_1) (h : laws_FnExactRedo.f k a0_0 l0_1 a0_2 = some r) :
    Calls Try.prog 8 #[.agg #[.string a0_0, .slice A0_1 l0_1.length c0_1, .int .i64 a0_2]] w fun e w' => e = .returned (.bool r) ∧ Below w.heap.size w w' := by
  have hu24 := Try.underlying24
  have hu50 := Try.underlying50
  have hu29 := Try.underlying29
  have HR0_1 := am hr0_1
  have HC0_1 := am hc0_1
  clear hr0_1 hc0_1
  have HB := am (Below.refl w.heap.size w)
  have H : ((laws_szHistory.f k a0_0 l0_1 a0_2 1048576).bind fun t388 => (if t388 < 0 then (some true) else ((laws_toHistory.f k a0_0 l0_1 a0_2).bind fun bt389 => ((spec_Redo.f k bt389.1 bt389.2.1 bt389.2.2).bind fun bt394 => ((laws_toHistory.f k a0_0 l0_1 a0_2).bind fun bt402 => ((impl_Redo.f k bt402.1 bt402.2.1 bt402.2.2).bind fun bt408 => ((laws_eqHistoryOut.f k bt408.1 bt408.2.1 bt408.2.2.1 bt408.2.2.2.1 bt408.2.2.2.2 bt394.1 bt394.2.1 bt394.2.2.1 bt394.2.2.2.1 bt394.2.2.2.2).bind fun t416 => (if t416 = true then ((laws_toHistory.f k a0_0 l0_1 a0_2).bind fun bt417 => ((laws_eqHistory.f k bt402.1 bt402.2.1 bt402.2.2 bt417.1 bt417.2.1 bt417.2.2).bind fun t422 => (if t422 = true then ((laws_markHistory.f k bt402.1 bt402.2.1 bt402.2.2 1).bind fun bt423 => (if bt423.1 < 0 then (laws_FnExactRedo.j0 k true a0_0 l0_1 a0_2 bt394.1 bt394.2.1 bt394.2.2.1 bt394.2.2.2.1 bt394.2.2.2.2 bt408.1 bt408.2.1 bt408.2.2.1 bt408.2.2.2.1 bt408.2.2.2.2) else ((laws_eqHistoryOut.f k bt408.1 bt408.2.1 bt408.2.2.1 bt408.2.2.2.1 bt408.2.2.2.2 bt394.1 bt394.2.1 bt394.2.2.1 bt394.2.2.2.1 bt394.2.2.2.2).bind fun t425 => (laws_FnExactRedo.j0 k (!t425) a0_0 l0_1 a0_2 bt394.1 bt394.2.1 bt394.2.2.1 bt394.2.2.2.1 bt394.2.2.2.2 bt408.1 bt408.2.1 bt408.2.2.1 bt408.2.2.2.1 bt408.2.2.2.2)))) else (none)))) else (none))))))))) = some r := h
  clear h
  replace H := Option.bind_eq_some_iff.mp H
  obtain ⟨t388, A20, H⟩ := H
  replace H : (if t388 < 0 then (some true) else ((laws_toHistory.f k a0_0 l0_1 a0_2).bind fun bt389 => ((spec_Redo.f k bt389.1 bt389.2.1 bt389.2.2).bind fun bt394 => ((laws_toHistory.f k a0_0 l0_1 a0_2).bind fun bt402 => ((impl_Redo.f k bt402.1 bt402.2.1 bt402.2.2).bind fun bt408 => ((laws_eqHistoryOut.f k bt408.1 bt408.2.1 bt408.2.2.1 bt408.2.2.2.1 bt408.2.2.2.2 bt394.1 bt394.2.1 bt394.2.2.1 bt394.2.2.2.1 bt394.2.2.2.2).bind fun t416 => (if t416 = true then ((laws_toHistory.f k a0_0 l0_1 a0_2).bind fun bt417 => ((laws_eqHistory.f k bt402.1 bt402.2.1 bt402.2.2 bt417.1 bt417.2.1 bt417.2.2).bind fun t422 => (if t422 = true then ((laws_markHistory.f k bt402.1 bt402.2.1 bt402.2.2 1).bind fun bt423 => (if bt423.1 < 0 then (laws_FnExactRedo.j0 k true a0_0 l0_1 a0_2 bt394.1 bt394.2.1 bt394.2.2.1 bt394.2.2.2.1 bt394.2.2.2.2 bt408.1 bt408.2.1 bt408.2.2.1 bt408.2.2.2.1 bt408.2.2.2.2) else ((laws_eqHistoryOut.f k bt408.1 bt408.2.1 bt408.2.2.1 bt408.2.2.2.1 bt408.2.2.2.2 bt394.1 bt394.2.1 bt394.2.2.1 bt394.2.2.2.1 bt394.2.2.2.2).bind fun t425 => (laws_FnExactRedo.j0 k (!t425) a0_0 l0_1 a0_2 bt394.1 bt394.2.1 bt394.2.2.1 bt394.2.2.2.1 bt394.2.2.2.2 bt408.1 bt408.2.1 bt408.2.2.1 bt408.2.2.2.1 bt408.2.2.2.2)))) else (none)))) else (none)))))))) = some r := H
  have A2 := am A20
  clear A20
  by_cases c3 : t388 < 0
  · rw [if_pos c3] at H
    have c3b0 : decide (t388 < 0) = true := decide_eq_true c3
    clear c3
    obtain rfl := Option.some.inj H
    go_enter Try.func8, Try.ntmps8
    go_wp2_with (first | ((with_reducible refine gate_dst (N := 1) rfl ?_); refine bX (N := 1) (cs := #[.string a0_0, .slice A0_1 l0_1.length c0_1, .int .i64 a0_2]) (t := 24) ?_; intro gb387 hg w4 hbox hb; have BK387 := am (hbox); have GW387 := am ((by rw [hg]; exact (below_size (w := w) i_) : w.heap.size ≤ gb387)); have GE387 := am ((by rw [hg]; exact (below_size (w := w) i_) : w.heap.size ≤ gb387)); replace HB := am (below_step (w := w) i_ hb); clear hb hbox hg; have hcz5 := bc3 BK387.out) | ((with_reducible refine gate_callee (f := 12) rfl ?_); refine gL (some 13) Try.func12 #[.agg #[.string a0_0, .slice A0_1 l0_1.length c0_1, .int .i64 a0_2], .int .i64 1048576] rfl ?_; (with_reducible refine (laws_szHistory.calls k a0_0 _ _ l0_1 a0_2 1048576 t388 _ ?side1 ?side2 A2.out).mono ?_); (case side1 => exact Kd.C_below HR0_1.out i_); (case side2 => exact HC0_1.out); rintro e w6 ⟨rfl, hb⟩; refine ⟨_, rfl, ?_⟩; replace BK387 := am (blk_below (g := gb387) (o := .cells #[.string a0_0, .slice A0_1 l0_1.length c0_1, .int .i64 a0_2] 24 (0, 0)) i_ hb); replace HB := am (below_step (w := w) i_ hb); (try clear hb); (try clear hb2); (try clear hk); ((try clear hi))))
    go_ret
    exact ⟨by first | rfl | (simp [errW_none, errW_some] <;> rfl) | (simp [*, errW_none, errW_some] <;> rfl), i_⟩
  · rw [if_neg c3] at H
    have c3b0 : decide (t388 < 0) = false := decide_eq_false c3
    clear c3
    replace H := Option.bind_eq_some_iff.mp H
    obtain ⟨⟨t389, t390, t393⟩, A70, H⟩ := H
    replace H : ((spec_Redo.f k t389 t390 t393).bind fun bt394 => ((laws_toHistory.f k a0_0 l0_1 a0_2).bind fun bt402 => ((impl_Redo.f k bt402.1 bt402.2.1 bt402.2.2).bind fun bt408 => ((laws_eqHistoryOut.f k bt408.1 bt408.2.1 bt408.2.2.1 bt408.2.2.2.1 bt408.2.2.2.2 bt394.1 bt394.2.1 bt394.2.2.1 bt394.2.2.2.1 bt394.2.2.2.2).bind fun t416 => (if t416 = true then ((laws_toHistory.f k a0_0 l0_1 a0_2).bind fun bt417 => ((laws_eqHistory.f k bt402.1 bt402.2.1 bt402.2.2 bt417.1 bt417.2.1 bt417.2.2).bind fun t422 => (if t422 = true then ((laws_markHistory.f k bt402.1 bt402.2.1 bt402.2.2 1).bind fun bt423 => (if bt423.1 < 0 then (laws_FnExactRedo.j0 k true a0_0 l0_1 a0_2 bt394.1 bt394.2.1 bt394.2.2.1 bt394.2.2.2.1 bt394.2.2.2.2 bt408.1 bt408.2.1 bt408.2.2.1 bt408.2.2.2.1 bt408.2.2.2.2) else ((laws_eqHistoryOut.f k bt408.1 bt408.2.1 bt408.2.2.1 bt408.2.2.2.1 bt408.2.2.2.2 bt394.1 bt394.2.1 bt394.2.2.1 bt394.2.2.2.1 bt394.2.2.2.2).bind fun t425 => (laws_FnExactRedo.j0 k (!t425) a0_0 l0_1 a0_2 bt394.1 bt394.2.1 bt394.2.2.1 bt394.2.2.2.1 bt394.2.2.2.2 bt408.1 bt408.2.1 bt408.2.2.1 bt408.2.2.2.1 bt408.2.2.2.2)))) else (none)))) else (none)))))) = some r := H
    have A7 := am A70
    clear A70
    replace H := Option.bind_eq_some_iff.mp H
    obtain ⟨⟨t394, t395, t396, t399, t400⟩, A80, H⟩ := H
    replace H : ((laws_toHistory.f k a0_0 l0_1 a0_2).bind fun bt402 => ((impl_Redo.f k bt402.1 bt402.2.1 bt402.2.2).bind fun bt408 => ((laws_eqHistoryOut.f k bt408.1 bt408.2.1 bt408.2.2.1 bt408.2.2.2.1 bt408.2.2.2.2 t394 t395 t396 t399 t400).bind fun t416 => (if t416 = true then ((laws_toHistory.f k a0_0 l0_1 a0_2).bind fun bt417 => ((laws_eqHistory.f k bt402.1 bt402.2.1 bt402.2.2 bt417.1 bt417.2.1 bt417.2.2).bind fun t422 => (if t422 = true then ((laws_markHistory.f k bt402.1 bt402.2.1 bt402.2.2 1).bind fun bt423 => (if bt423.1 < 0 then (laws_FnExactRedo.j0 k true a0_0 l0_1 a0_2 t394 t395 t396 t399 t400 bt408.1 bt408.2.1 bt408.2.2.1 bt408.2.2.2.1 bt408.2.2.2.2) else ((laws_eqHistoryOut.f k bt408.1 bt408.2.1 bt408.2.2.1 bt408.2.2.2.1 bt408.2.2.2.2 t394 t395 t396 t399 t400).bind fun t425 => (laws_FnExactRedo.j0 k (!t425) a0_0 l0_1 a0_2 t394 t395 t396 t399 t400 bt408.1 bt408.2.1 bt408.2.2.1 bt408.2.2.2.1 bt408.2.2.2.2)))) else (none)))) else (none))))) = some r := H
    have A8 := am A80
    clear A80
    replace H := Option.bind_eq_some_iff.mp H
    obtain ⟨⟨t402, t403, t406⟩, A90, H⟩ := H
    replace H : ((impl_Redo.f k t402 t403 t406).bind fun bt408 => ((laws_eqHistoryOut.f k bt408.1 bt408.2.1 bt408.2.2.1 bt408.2.2.2.1 bt408.2.2.2.2 t394 t395 t396 t399 t400).bind fun t416 => (if t416 = true then ((laws_toHistory.f k a0_0 l0_1 a0_2).bind fun bt417 => ((laws_eqHistory.f k t402 t403 t406 bt417.1 bt417.2.1 bt417.2.2).bind fun t422 => (if t422 = true then ((laws_markHistory.f k t402 t403 t406 1).bind fun bt423 => (if bt423.1 < 0 then (laws_FnExactRedo.j0 k true a0_0 l0_1 a0_2 t394 t395 t396 t399 t400 bt408.1 bt408.2.1 bt408.2.2.1 bt408.2.2.2.1 bt408.2.2.2.2) else ((laws_eqHistoryOut.f k bt408.1 bt408.2.1 bt408.2.2.1 bt408.2.2.2.1 bt408.2.2.2.2 t394 t395 t396 t399 t400).bind fun t425 => (laws_FnExactRedo.j0 k (!t425) a0_0 l0_1 a0_2 t394 t395 t396 t399 t400 bt408.1 bt408.2.1 bt408.2.2.1 bt408.2.2.2.1 bt408.2.2.2.2)))) else (none)))) else (none)))) = some r := H
    have A9 := am A90
    clear A90
    replace H := Option.bind_eq_some_iff.mp H
    obtain ⟨⟨t408, t409, t410, t413, t414⟩, A100, H⟩ := H
    replace H : ((laws_eqHistoryOut.f k t408 t409 t410 t413 t414 t394 t395 t396 t399 t400).bind fun t416 => (if t416 = true then ((laws_toHistory.f k a0_0 l0_1 a0_2).bind fun bt417 => ((laws_eqHistory.f k t402 t403 t406 bt417.1 bt417.2.1 bt417.2.2).bind fun t422 => (if t422 = true then ((laws_markHistory.f k t402 t403 t406 1).bind fun bt423 => (if bt423.1 < 0 then (laws_FnExactRedo.j0 k true a0_0 l0_1 a0_2 t394 t395 t396 t399 t400 t408 t409 t410 t413 t414) else ((laws_eqHistoryOut.f k t408 t409 t410 t413 t414 t394 t395 t396 t399 t400).bind fun t425 => (laws_FnExactRedo.j0 k (!t425) a0_0 l0_1 a0_2 t394 t395 t396 t399 t400 t408 t409 t410 t413 t414)))) else (none)))) else (none))) = some r := H
    have A10 := am A100
    clear A100
    replace H := Option.bind_eq_some_iff.mp H
    obtain ⟨t416, A110, H⟩ := H
    replace H : (if t416 = true then ((laws_toHistory.f k a0_0 l0_1 a0_2).bind fun bt417 => ((laws_eqHistory.f k t402 t403 t406 bt417.1 bt417.2.1 bt417.2.2).bind fun t422 => (if t422 = true then ((laws_markHistory.f k t402 t403 t406 1).bind fun bt423 => (if bt423.1 < 0 then (laws_FnExactRedo.j0 k true a0_0 l0_1 a0_2 t394 t395 t396 t399 t400 t408 t409 t410 t413 t414) else ((laws_eqHistoryOut.f k t408 t409 t410 t413 t414 t394 t395 t396 t399 t400).bind fun t425 => (laws_FnExactRedo.j0 k (!t425) a0_0 l0_1 a0_2 t394 t395 t396 t399 t400 t408 t409 t410 t413 t414)))) else (none)))) else (none)) = some r := H
    have A11 := am A110
    clear A110
    by_cases c12 : t416 = true
    · subst c12
      have H1 : ((laws_toHistory.f k a0_0 l0_1 a0_2).bind fun bt417 => ((laws_eqHistory.f k t402 t403 t406 bt417.1 bt417.2.1 bt417.2.2).bind fun t422 => (if t422 = true then ((laws_markHistory.f k t402 t403 t406 1).bind fun bt423 => (if bt423.1 < 0 then (laws_FnExactRedo.j0 k true a0_0 l0_1 a0_2 t394 t395 t396 t399 t400 t408 t409 t410 t413 t414) else ((laws_eqHistoryOut.f k t408 t409 t410 t413 t414 t394 t395 t396 t399 t400).bind fun t425 => (laws_FnExactRedo.j0 k (!t425) a0_0 l0_1 a0_2 t394 t395 t396 t399 t400 t408 t409 t410 t413 t414)))) else (none)))) = some r := by rw [if_pos rfl] at H; exact H
      clear H
      have H := H1
      clear H1
      replace H := Option.bind_eq_some_iff.mp H
      obtain ⟨⟨t417, t418, t421⟩, A130, H⟩ := H
      replace H : ((laws_eqHistory.f k t402 t403 t406 t417 t418 t421).bind fun t422 => (if t422 = true then ((laws_markHistory.f k t402 t403 t406 1).bind fun bt423 => (if bt423.1 < 0 then (laws_FnExactRedo.j0 k true a0_0 l0_1 a0_2 t394 t395 t396 t399 t400 t408 t409 t410 t413 t414) else ((laws_eqHistoryOut.f k t408 t409 t410 t413 t414 t394 t395 t396 t399 t400).bind fun t425 => (laws_FnExactRedo.j0 k (!t425) a0_0 l0_1 a0_2 t394 t395 t396 t399 t400 t408 t409 t410 t413 t414)))) else (none))) = some r := H
      have A13 := am A130
      clear A130
      replace H := Option.bind_eq_some_iff.mp H
      obtain ⟨t422, A140, H⟩ := H
      replace H : (if t422 = true then ((laws_markHistory.f k t402 t403 t406 1).bind fun bt423 => (if bt423.1 < 0 then (laws_FnExactRedo.j0 k true a0_0 l0_1 a0_2 t394 t395 t396 t399 t400 t408 t409 t410 t413 t414) else ((laws_eqHistoryOut.f k t408 t409 t410 t413 t414 t394 t395 t396 t399 t400).bind fun t425 => (laws_FnExactRedo.j0 k (!t425) a0_0 l0_1 a0_2 t394 t395 t396 t399 t400 t408 t409 t410 t413 t414)))) else (none)) = some r := H
      have A14 := am A140
      clear A140
      by_cases c15 : t422 = true
      · subst c15
        have H1 : ((laws_markHistory.f k t402 t403 t406 1).bind fun bt423 => (if bt423.1 < 0 then (laws_FnExactRedo.j0 k true a0_0 l0_1 a0_2 t394 t395 t396 t399 t400 t408 t409 t410 t413 t414) else ((laws_eqHistoryOut.f k t408 t409 t410 t413 t414 t394 t395 t396 t399 t400).bind fun t425 => (laws_FnExactRedo.j0 k (!t425) a0_0 l0_1 a0_2 t394 t395 t396 t399 t400 t408 t409 t410 t413 t414)))) = some r := by rw [if_pos rfl] at H; exact H
        clear H
        have H := H1
        clear H1
        replace H := Option.bind_eq_some_iff.mp H
        obtain ⟨⟨t423, t424⟩, A160, H⟩ := H
        replace H : (if t423 < 0 then (laws_FnExactRedo.j0 k true a0_0 l0_1 a0_2 t394 t395 t396 t399 t400 t408 t409 t410 t413 t414) else ((laws_eqHistoryOut.f k t408 t409 t410 t413 t414 t394 t395 t396 t399 t400).bind fun t425 => (laws_FnExactRedo.j0 k (!t425) a0_0 l0_1 a0_2 t394 t395 t396 t399 t400 t408 t409 t410 t413 t414))) = some r := H
        have A16 := am A160
        clear A160
        have HC17 := am H
        clear H
        go_enter Try.func8, Try.ntmps8
        try go_wp2_with (first | ((with_reducible refine gate_dst (N := 1) rfl ?_); refine bX (N := 1) (cs := #[.string a0_0, .slice A0_1 l0_1.length c0_1, .int .i64 a0_2]) (t := 24) ?_; intro gb387 hg w18 hbox hb; have BK387 := am (hbox); have GW387 := am ((by rw [hg]; exact (below_size (w := w) i_) : w.heap.size ≤ gb387)); have GE387 := am ((by rw [hg]; exact (below_size (w := w) i_) : w.heap.size ≤ gb387)); replace HB := am (below_step (w := w) i_ hb); clear hb hbox hg; have hcz19 := bc3 BK387.out) | ((with_reducible refine gate_callee (f := 12) rfl ?_); refine gL (some 13) Try.func12 #[.agg #[.string a0_0, .slice A0_1 l0_1.length c0_1, .int .i64 a0_2], .int .i64 1048576] rfl ?_; (with_reducible refine (laws_szHistory.calls k a0_0 _ _ l0_1 a0_2 1048576 t388 _ ?side1 ?side2 A2.out).mono ?_); (case side1 => exact Kd.C_below HR0_1.out i_); (case side2 => exact HC0_1.out); rintro e w20 ⟨rfl, hb⟩; refine ⟨_, rfl, ?_⟩; replace BK387 := am (blk_below (g := gb387) (o := .cells #[.string a0_0, .slice A0_1 l0_1.length c0_1, .int .i64 a0_2] 24 (0, 0)) i_ hb); replace HB := am (below_step (w := w) i_ hb); (try clear hb); (try clear hb2); (try clear hk); (try clear hi); have hcz21 := bc3 BK387.out) | ((with_reducible refine gate_callee (f := 14) rfl ?_); refine gL (some 17) Try.func14 #[.agg #[.string a0_0, .slice A0_1 l0_1.length c0_1, .int .i64 a0_2]] rfl ?_; (with_reducible refine (laws_toHistory.calls k a0_0 _ _ l0_1 a0_2 t389 t390 t393 _ ?side1 ?side2 A7.out).mono ?_); (case side1 => exact Kd.C_below HR0_1.out i_); (case side2 => exact HC0_1.out); rintro e w22 ⟨v391, rfl, ho0, hb⟩; refine ⟨_, rfl, ?_⟩; have HO392 := am (Kd.R_lower ho0 (below_size (w := w) i_)); replace BK387 := am (blk_below (g := gb387) (o := .cells #[.string a0_0, .slice A0_1 l0_1.length c0_1, .int .i64 a0_2] 24 (0, 0)) i_ hb); replace HB := am (below_step (w := w) i_ hb); (try clear hb); (try clear hb2); (try clear hk); (try clear hi); (try clear ho0); obtain ⟨Ao23, co23, eo23⟩ := Kd.R_slice HO392.out; subst eo23) | ((with_reducible refine gate_callee (f := 35) rfl ?_); refine gL (some 18) Try.func35 #[.agg #[.string t389, .slice Ao23 t390.length co23, .int .i64 t393]] rfl ?_; (with_reducible refine (spec_Redo.calls k t389 _ _ t390 t393 t394 t395 t396 t399 t400 _ ?side1 ?side2 A8.out).mono ?_); (case side1 => repeat (first | exact (Kd.R_reads' HO392.out).2.2 | (with_reducible refine Kd.C_alloc ?_ _) | (with_reducible refine Kd.C_drewN ?_ _) | (with_reducible refine Kd.C_drew ?_))); (case side2 => exact (Kd.R_reads' HO392.out).2.1); rintro e w24 ⟨v397, rfl, ho0, hb⟩; refine ⟨_, rfl, ?_⟩; have HO398 := am (Kd.R_lower (Kd.R_new' ho0 (Kd.R_lt (by (with_reducible repeat (first | apply Kd.R_alloc | apply Kd.R_drewN | apply Kd.R_drew)); exact HO392.out))) (below_size (w := w) i_)); replace HO392 := am (Kd.R_elder' (by (with_reducible repeat (first | apply Kd.R_alloc | apply Kd.R_drewN | apply Kd.R_drew)); exact HO392.out) (Kd.R_base ho0) hb); replace BK387 := am (blk_below (g := gb387) (o := .cells #[.string a0_0, .slice A0_1 l0_1.length c0_1, .int .i64 a0_2] 24 (0, 0)) i_ hb); replace HB := am (below_step (w := w) i_ hb); (try clear hb); (try clear hb2); (try clear hk); (try clear hi); (try clear ho0)) | ((with_reducible refine gate_dst (N := 4) rfl ?_); refine bX (N := 4) (cs := #[.int .i64 0, .string (⟨#[]⟩ : ByteArray), .slice none 0 0, .int .i64 0, .string (⟨#[]⟩ : ByteArray)]) (t := 50) ?_; intro gb401 hg w25 hbox hb; have BK401 := am (hbox); have GW401 := am ((by rw [hg]; exact (below_size (w := w) i_) : w.heap.size ≤ gb401)); have GE401 := am ((by rw [hg]; exact (below_size (w := w) i_) : w.heap.size ≤ gb401)); have NB387_401 := am ((by rw [hg]; exact Nat.ne_of_lt (blk_lt (g := gb387) (o := .cells #[.string a0_0, .slice A0_1 l0_1.length c0_1, .int .i64 a0_2] 24 (0, 0)) i_) : gb387 ≠ gb401)); have NB401_387 := am ((by rw [hg]; exact Nat.ne_of_gt (blk_lt (g := gb387) (o := .cells #[.string a0_0, .slice A0_1 l0_1.length c0_1, .int .i64 a0_2] 24 (0, 0)) i_) : gb401 ≠ gb387)); replace HO392 := am (rB HO392.out i_ hb); replace HO398 := am (rB HO398.out i_ hb); replace BK387 := am (blk_below (g := gb387) (o := .cells #[.string a0_0, .slice A0_1 l0_1.length c0_1, .int .i64 a0_2] 24 (0, 0)) i_ hb); replace HB := am (below_step (w := w) i_ hb); clear hb hbox hg; have hnb26 := NB401_387.out; have hnc26 := NB387_401.out; have hcz27 := bc5 BK401.out; obtain ⟨Ao28, co28, eo28⟩ := Kd.R_slice HO398.out; subst eo28; have hcz29 := bc3 BK387.out) | ((with_reducible refine gate_callee (f := 14) rfl ?_); refine gL (some 20) Try.func14 #[.agg #[.string a0_0, .slice A0_1 l0_1.length c0_1, .int .i64 a0_2]] rfl ?_; (with_reducible refine (laws_toHistory.calls k a0_0 _ _ l0_1 a0_2 t402 t403 t406 _ ?side1 ?side2 A9.out).mono ?_); (case side1 => exact Kd.C_below HR0_1.out (i_)); (case side2 => exact HC0_1.out); rintro e w30 ⟨v404, rfl, ho0, hb⟩; refine ⟨_, rfl, ?_⟩; have HO405 := am (Kd.R_lower (Kd.R_new' (Kd.R_new' ho0 (Kd.R_lt (by (with_reducible repeat (first | apply Kd.R_alloc | apply Kd.R_drewN | apply Kd.R_drew)); exact (Kd.R_mono (Kd.R_far (p := ⟨gb401, 4, none⟩) (Kd.R_far (p := ⟨gb401, 3, none⟩) (Kd.R_far (p := ⟨gb401, 2, none⟩) (Kd.R_far (p := ⟨gb401, 1, none⟩) (Kd.R_far (p := ⟨gb401, 0, none⟩) (Kd.R_types HO392.out BK401.out (by decide)) (fun _ hk => hk.2) (.int .i64 t394)) (fun _ hk => hk.2) (.string t395)) (fun _ hk => hk.2) (.slice Ao28 t396.length co28)) (fun _ hk => hk.2) (.int .i64 t399)) (fun _ hk => hk.2) (.string t400)) (fun _ h_ => h_.1))))) (Kd.R_lt (by (with_reducible repeat (first | apply Kd.R_alloc | apply Kd.R_drewN | apply Kd.R_drew)); exact (Kd.R_mono (Kd.R_far (p := ⟨gb401, 4, none⟩) (Kd.R_far (p := ⟨gb401, 3, none⟩) (Kd.R_far (p := ⟨gb401, 2, none⟩) (Kd.R_far (p := ⟨gb401, 1, none⟩) (Kd.R_far (p := ⟨gb401, 0, none⟩) (Kd.R_types HO398.out BK401.out (by decide)) (fun _ hk => hk.2) (.int .i64 t394)) (fun _ hk => hk.2) (.string t395)) (fun _ hk => hk.2) (.slice Ao28 t396.length co28)) (fun _ hk => hk.2) (.int .i64 t399)) (fun _ hk => hk.2) (.string t400)) (fun _ h_ => h_.1))))) (below_size (w := w) i_)); replace HO392 := am (Kd.R_elder' (by (with_reducible repeat (first | apply Kd.R_alloc | apply Kd.R_drewN | apply Kd.R_drew)); exact (Kd.R_mono (Kd.R_far (p := ⟨gb401, 4, none⟩) (Kd.R_far (p := ⟨gb401, 3, none⟩) (Kd.R_far (p := ⟨gb401, 2, none⟩) (Kd.R_far (p := ⟨gb401, 1, none⟩) (Kd.R_far (p := ⟨gb401, 0, none⟩) (Kd.R_types HO392.out BK401.out (by decide)) (fun _ hk => hk.2) (.int .i64 t394)) (fun _ hk => hk.2) (.string t395)) (fun _ hk => hk.2) (.slice Ao28 t396.length co28)) (fun _ hk => hk.2) (.int .i64 t399)) (fun _ hk => hk.2) (.string t400)) (fun _ h_ => h_.1))) (Kd.R_base ho0) hb); replace HO398 := am (Kd.R_elder' (by (with_reducible repeat (first | apply Kd.R_alloc | apply Kd.R_drewN | apply Kd.R_drew)); exact (Kd.R_mono (Kd.R_far (p := ⟨gb401, 4, none⟩) (Kd.R_far (p := ⟨gb401, 3, none⟩) (Kd.R_far (p := ⟨gb401, 2, none⟩) (Kd.R_far (p := ⟨gb401, 1, none⟩) (Kd.R_far (p := ⟨gb401, 0, none⟩) (Kd.R_types HO398.out BK401.out (by decide)) (fun _ hk => hk.2) (.int .i64 t394)) (fun _ hk => hk.2) (.string t395)) (fun _ hk => hk.2) (.slice Ao28 t396.length co28)) (fun _ hk => hk.2) (.int .i64 t399)) (fun _ hk => hk.2) (.string t400)) (fun _ h_ => h_.1))) (Kd.R_base ho0) hb); replace BK387 := am (blk_below (g := gb387) (o := .cells #[.string a0_0, .slice A0_1 l0_1.length c0_1, .int .i64 a0_2] 24 (0, 0)) i_ hb); replace BK401 := am (blk_below (g := gb401) (o := .cells #[.int .i64 t394, .string t395, .slice Ao28 t396.length co28, .int .i64 t399, .string t400] 50 (0, 0)) (by (with_reducible repeat (first | refine blk_drewN ?_ _ | refine blk_drew ?_ | refine blk_alloc ?_ _)); refine blk_put (cs := #[.int .i64 t394, .string t395, .slice Ao28 t396.length co28, .int .i64 t399, .string (⟨#[]⟩ : ByteArray)]) ?_ 4 _ rfl; (with_reducible repeat (first | refine blk_drewN ?_ _ | refine blk_drew ?_ | refine blk_alloc ?_ _)); refine blk_put (cs := #[.int .i64 t394, .string t395, .slice Ao28 t396.length co28, .int .i64 0, .string (⟨#[]⟩ : ByteArray)]) ?_ 3 _ rfl; (with_reducible repeat (first | refine blk_drewN ?_ _ | refine blk_drew ?_ | refine blk_alloc ?_ _)); refine blk_put (cs := #[.int .i64 t394, .string t395, .slice none 0 0, .int .i64 0, .string (⟨#[]⟩ : ByteArray)]) ?_ 2 _ rfl; (with_reducible repeat (first | refine blk_drewN ?_ _ | refine blk_drew ?_ | refine blk_alloc ?_ _)); refine blk_put (cs := #[.int .i64 t394, .string (⟨#[]⟩ : ByteArray), .slice none 0 0, .int .i64 0, .string (⟨#[]⟩ : ByteArray)]) ?_ 1 _ rfl; (with_reducible repeat (first | refine blk_drewN ?_ _ | refine blk_drew ?_ | refine blk_alloc ?_ _)); refine blk_put (cs := #[.int .i64 0, .string (⟨#[]⟩ : ByteArray), .slice none 0 0, .int .i64 0, .string (⟨#[]⟩ : ByteArray)]) ?_ 0 _ rfl; (with_reducible repeat (first | refine blk_drewN ?_ _ | refine blk_drew ?_ | refine blk_alloc ?_ _)); exact BK401.out) hb); replace HB := am (below_step (w := w) i_ hb); (try clear hb); (try clear hb2); (try clear hk); (try clear hi); (try clear ho0)) | ((with_reducible refine gate_dst (N := 5) rfl ?_); refine bX (N := 5) (cs := #[.string (⟨#[]⟩ : ByteArray), .slice none 0 0, .int .i64 0]) (t := 29) ?_; intro gb407 hg w31 hbox hb; have BK407 := am (hbox); have GW407 := am ((by rw [hg]; exact (below_size (w := w) i_) : w.heap.size ≤ gb407)); have GE407 := am ((by rw [hg]; exact (below_size (w := w) i_) : w.heap.size ≤ gb407)); have NB387_407 := am ((by rw [hg]; exact Nat.ne_of_lt (blk_lt (g := gb387) (o := .cells #[.string a0_0, .slice A0_1 l0_1.length c0_1, .int .i64 a0_2] 24 (0, 0)) i_) : gb387 ≠ gb407)); have NB407_387 := am ((by rw [hg]; exact Nat.ne_of_gt (blk_lt (g := gb387) (o := .cells #[.string a0_0, .slice A0_1 l0_1.length c0_1, .int .i64 a0_2] 24 (0, 0)) i_) : gb407 ≠ gb387)); have NB401_407 := am ((by rw [hg]; exact Nat.ne_of_lt (blk_lt (g := gb401) (o := .cells #[.int .i64 t394, .string t395, .slice Ao28 t396.length co28, .int .i64 t399, .string t400] 50 (0, 0)) i_) : gb401 ≠ gb407)); have NB407_401 := am ((by rw [hg]; exact Nat.ne_of_gt (blk_lt (g := gb401) (o := .cells #[.int .i64 t394, .string t395, .slice Ao28 t396.length co28, .int .i64 t399, .string t400] 50 (0, 0)) i_) : gb407 ≠ gb401)); replace HO392 := am (rB HO392.out i_ hb); replace HO398 := am (rB HO398.out i_ hb); replace HO405 := am (rB HO405.out i_ hb); replace BK387 := am (blk_below (g := gb387) (o := .cells #[.string a0_0, .slice A0_1 l0_1.length c0_1, .int .i64 a0_2] 24 (0, 0)) i_ hb); replace BK401 := am (blk_below (g := gb401) (o := .cells #[.int .i64 t394, .string t395, .slice Ao28 t396.length co28, .int .i64 t399, .string t400] 50 (0, 0)) i_ hb); replace HB := am (below_step (w := w) i_ hb); clear hb hbox hg; have hnb32 := NB407_387.out; have hnc32 := NB387_407.out; have hnb33 := NB407_401.out; have hnc33 := NB401_407.out; have hcz34 := bc3 BK407.out; obtain ⟨Ao35, co35, eo35⟩ := Kd.R_slice HO405.out; subst eo35) | ((with_reducible refine gate_callee (f := 36) rfl ?_); refine gL (some 22) Try.func36 #[.agg #[.string t402, .slice Ao35 t403.length co35, .int .i64 t406]] rfl ?_; (with_reducible refine (impl_Redo.calls k t402 _ _ t403 t406 t408 t409 t410 t413 t414 _ ?side1 ?side2 A10.out).mono ?_); (case side1 => refine (Kd.R_reads' (e := 68) (base := w.heap.size) (ok := fun k_ => ((True ∧ some k_ ≠ (.slice Ao23 t390.length co23 : Value).ownBlock) ∧ some k_ ≠ (.slice Ao28 t396.length co28 : Value).ownBlock)) (n := t403.length) (c := co35) ?_).2.2; exact (by (with_reducible repeat (first | apply Kd.R_alloc | apply Kd.R_drewN | apply Kd.R_drew)); exact (Kd.R_mono (Kd.R_far (p := ⟨gb407, 2, none⟩) (Kd.R_far (p := ⟨gb407, 1, none⟩) (Kd.R_far (p := ⟨gb407, 0, none⟩) (Kd.R_types HO405.out BK407.out (by decide)) (fun _ hk => hk.2) (.string t402)) (fun _ hk => hk.2) (.slice Ao35 t403.length co35)) (fun _ hk => hk.2) (.int .i64 t406)) (fun _ h_ => h_.1)))); (case side2 => exact (Kd.R_reads' HO405.out).2.1); rintro e w36 ⟨v411, rfl, ho0, hb⟩; refine ⟨_, rfl, ?_⟩; have HO412 := am (Kd.R_lower (Kd.R_new' (Kd.R_new' (Kd.R_new' ho0 (Kd.R_lt (by (with_reducible repeat (first | apply Kd.R_alloc | apply Kd.R_drewN | apply Kd.R_drew)); exact (Kd.R_mono (Kd.R_far (p := ⟨gb407, 2, none⟩) (Kd.R_far (p := ⟨gb407, 1, none⟩) (Kd.R_far (p := ⟨gb407, 0, none⟩) (Kd.R_types HO392.out BK407.out (by decide)) (fun _ hk => hk.2) (.string t402)) (fun _ hk => hk.2) (.slice Ao35 t403.length co35)) (fun _ hk => hk.2) (.int .i64 t406)) (fun _ h_ => h_.1))))) (Kd.R_lt (by (with_reducible repeat (first | apply Kd.R_alloc | apply Kd.R_drewN | apply Kd.R_drew)); exact (Kd.R_mono (Kd.R_far (p := ⟨gb407, 2, none⟩) (Kd.R_far (p := ⟨gb407, 1, none⟩) (Kd.R_far (p := ⟨gb407, 0, none⟩) (Kd.R_types HO398.out BK407.out (by decide)) (fun _ hk => hk.2) (.string t402)) (fun _ hk => hk.2) (.slice Ao35 t403.length co35)) (fun _ hk => hk.2) (.int .i64 t406)) (fun _ h_ => h_.1))))) (Kd.R_lt (by (with_reducible repeat (first | apply Kd.R_alloc | apply Kd.R_drewN | apply Kd.R_drew)); exact (Kd.R_mono (Kd.R_far (p := ⟨gb407, 2, none⟩) (Kd.R_far (p := ⟨gb407, 1, none⟩) (Kd.R_far (p := ⟨gb407, 0, none⟩) (Kd.R_types HO405.out BK407.out (by decide)) (fun _ hk => hk.2) (.string t402)) (fun _ hk => hk.2) (.slice Ao35 t403.length co35)) (fun _ hk => hk.2) (.int .i64 t406)) (fun _ h_ => h_.1))))) (below_size (w := w) i_)); replace HO392 := am (Kd.R_elder' (by (with_reducible repeat (first | apply Kd.R_alloc | apply Kd.R_drewN | apply Kd.R_drew)); exact (Kd.R_mono (Kd.R_far (p := ⟨gb407, 2, none⟩) (Kd.R_far (p := ⟨gb407, 1, none⟩) (Kd.R_far (p := ⟨gb407, 0, none⟩) (Kd.R_types HO392.out BK407.out (by decide)) (fun _ hk => hk.2) (.string t402)) (fun _ hk => hk.2) (.slice Ao35 t403.length co35)) (fun _ hk => hk.2) (.int .i64 t406)) (fun _ h_ => h_.1))) (Kd.R_base ho0) hb); replace HO398 := am (Kd.R_elder' (by (with_reducible repeat (first | apply Kd.R_alloc | apply Kd.R_drewN | apply Kd.R_drew)); exact (Kd.R_mono (Kd.R_far (p := ⟨gb407, 2, none⟩) (Kd.R_far (p := ⟨gb407, 1, none⟩) (Kd.R_far (p := ⟨gb407, 0, none⟩) (Kd.R_types HO398.out BK407.out (by decide)) (fun _ hk => hk.2) (.string t402)) (fun _ hk => hk.2) (.slice Ao35 t403.length co35)) (fun _ hk => hk.2) (.int .i64 t406)) (fun _ h_ => h_.1))) (Kd.R_base ho0) hb); replace HO405 := am (Kd.R_elder' (by (with_reducible repeat (first | apply Kd.R_alloc | apply Kd.R_drewN | apply Kd.R_drew)); exact (Kd.R_mono (Kd.R_far (p := ⟨gb407, 2, none⟩) (Kd.R_far (p := ⟨gb407, 1, none⟩) (Kd.R_far (p := ⟨gb407, 0, none⟩) (Kd.R_types HO405.out BK407.out (by decide)) (fun _ hk => hk.2) (.string t402)) (fun _ hk => hk.2) (.slice Ao35 t403.length co35)) (fun _ hk => hk.2) (.int .i64 t406)) (fun _ h_ => h_.1))) (Kd.R_base ho0) hb); replace BK387 := am (blk_below (g := gb387) (o := .cells #[.string a0_0, .slice A0_1 l0_1.length c0_1, .int .i64 a0_2] 24 (0, 0)) i_ hb); replace BK401 := am (blk_below (g := gb401) (o := .cells #[.int .i64 t394, .string t395, .slice Ao28 t396.length co28, .int .i64 t399, .string t400] 50 (0, 0)) i_ hb); replace BK407 := am (blk_below (g := gb407) (o := .cells #[.string t402, .slice Ao35 t403.length co35, .int .i64 t406] 29 (0, 0)) (by (with_reducible repeat (first | refine blk_drewN ?_ _ | refine blk_drew ?_ | refine blk_alloc ?_ _)); refine blk_put (cs := #[.string t402, .slice Ao35 t403.length co35, .int .i64 0]) ?_ 2 _ rfl; (with_reducible repeat (first | refine blk_drewN ?_ _ | refine blk_drew ?_ | refine blk_alloc ?_ _)); refine blk_put (cs := #[.string t402, .slice none 0 0, .int .i64 0]) ?_ 1 _ rfl; (with_reducible repeat (first | refine blk_drewN ?_ _ | refine blk_drew ?_ | refine blk_alloc ?_ _)); refine blk_put (cs := #[.string (⟨#[]⟩ : ByteArray), .slice none 0 0, .int .i64 0]) ?_ 0 _ rfl; (with_reducible repeat (first | refine blk_drewN ?_ _ | refine blk_drew ?_ | refine blk_alloc ?_ _)); exact BK407.out) hb); replace HB := am (below_step (w := w) i_ hb); (try clear hb); (try clear hb2); (try clear hk); (try clear hi); (try clear ho0)) | ((with_reducible refine gate_dst (N := 6) rfl ?_); refine bX (N := 6) (cs := #[.int .i64 0, .string (⟨#[]⟩ : ByteArray), .slice none 0 0, .int .i64 0, .string (⟨#[]⟩ : ByteArray)]) (t := 50) ?_; intro gb415 hg w37 hbox hb; have BK415 := am (hbox); have GW415 := am ((by rw [hg]; exact (below_size (w := w) i_) : w.heap.size ≤ gb415)); have GE415 := am ((by rw [hg]; exact (below_size (w := w) i_) : w.heap.size ≤ gb415)); have NB387_415 := am ((by rw [hg]; exact Nat.ne_of_lt (blk_lt (g := gb387) (o := .cells #[.string a0_0, .slice A0_1 l0_1.length c0_1, .int .i64 a0_2] 24 (0, 0)) i_) : gb387 ≠ gb415)); have NB415_387 := am ((by rw [hg]; exact Nat.ne_of_gt (blk_lt (g := gb387) (o := .cells #[.string a0_0, .slice A0_1 l0_1.length c0_1, .int .i64 a0_2] 24 (0, 0)) i_) : gb415 ≠ gb387)); have NB401_415 := am ((by rw [hg]; exact Nat.ne_of_lt (blk_lt (g := gb401) (o := .cells #[.int .i64 t394, .string t395, .slice Ao28 t396.length co28, .int .i64 t399, .string t400] 50 (0, 0)) i_) : gb401 ≠ gb415)); have NB415_401 := am ((by rw [hg]; exact Nat.ne_of_gt (blk_lt (g := gb401) (o := .cells #[.int .i64 t394, .string t395, .slice Ao28 t396.length co28, .int .i64 t399, .string t400] 50 (0, 0)) i_) : gb415 ≠ gb401)); have NB407_415 := am ((by rw [hg]; exact Nat.ne_of_lt (blk_lt (g := gb407) (o := .cells #[.string t402, .slice Ao35 t403.length co35, .int .i64 t406] 29 (0, 0)) i_) : gb407 ≠ gb415)); have NB415_407 := am ((by rw [hg]; exact Nat.ne_of_gt (blk_lt (g := gb407) (o := .cells #[.string t402, .slice Ao35 t403.length co35, .int .i64 t406] 29 (0, 0)) i_) : gb415 ≠ gb407)); replace HO392 := am (rB HO392.out i_ hb); replace HO398 := am (rB HO398.out i_ hb); replace HO405 := am (rB HO405.out i_ hb); replace HO412 := am (rB HO412.out i_ hb); replace BK387 := am (blk_below (g := gb387) (o := .cells #[.string a0_0, .slice A0_1 l0_1.length c0_1, .int .i64 a0_2] 24 (0, 0)) i_ hb); replace BK401 := am (blk_below (g := gb401) (o := .cells #[.int .i64 t394, .string t395, .slice Ao28 t396.length co28, .int .i64 t399, .string t400] 50 (0, 0)) i_ hb); replace BK407 := am (blk_below (g := gb407) (o := .cells #[.string t402, .slice Ao35 t403.length co35, .int .i64 t406] 29 (0, 0)) i_ hb); replace HB := am (below_step (w := w) i_ hb); clear hb hbox hg; have hnb38 := NB415_387.out; have hnc38 := NB387_415.out; have hnb39 := NB415_401.out; have hnc39 := NB401_415.out; have hnb40 := NB415_407.out; have hnc40 := NB407_415.out; have hcz41 := bc5 BK415.out; obtain ⟨Ao42, co42, eo42⟩ := Kd.R_slice HO412.out; subst eo42; have hcz43 := bc5 BK401.out) | ((with_reducible refine gate_callee (f := 31) rfl ?_); refine gL (some 25) Try.func31 #[.agg #[.int .i64 t408, .string t409, .slice Ao42 t410.length co42, .int .i64 t413, .string t414], .agg #[.int .i64 t394, .string t395, .slice Ao28 t396.length co28, .int .i64 t399, .string t400]] rfl ?_; (with_reducible refine (laws_eqHistoryOut.calls k t408 t409 _ _ t410 t413 t414 t394 t395 _ _ t396 t399 t400 true _ ?side1 ?side2 ?side3 ?side4 A11.out).mono ?_); (case side1 => refine (Kd.R_reads' (e := 68) (base := w.heap.size) (ok := fun k_ => (((True ∧ some k_ ≠ (.slice Ao23 t390.length co23 : Value).ownBlock) ∧ some k_ ≠ (.slice Ao28 t396.length co28 : Value).ownBlock) ∧ some k_ ≠ (.slice Ao35 t403.length co35 : Value).ownBlock)) (n := t410.length) (c := co42) ?_).2.2; exact (by (with_reducible repeat (first | apply Kd.R_alloc | apply Kd.R_drewN | apply Kd.R_drew)); exact (Kd.R_mono (Kd.R_far (p := ⟨gb415, 4, none⟩) (Kd.R_far (p := ⟨gb415, 3, none⟩) (Kd.R_far (p := ⟨gb415, 2, none⟩) (Kd.R_far (p := ⟨gb415, 1, none⟩) (Kd.R_far (p := ⟨gb415, 0, none⟩) (Kd.R_types HO412.out BK415.out (by decide)) (fun _ hk => hk.2) (.int .i64 t408)) (fun _ hk => hk.2) (.string t409)) (fun _ hk => hk.2) (.slice Ao42 t410.length co42)) (fun _ hk => hk.2) (.int .i64 t413)) (fun _ hk => hk.2) (.string t414)) (fun _ h_ => h_.1)))); (case side2 => exact (Kd.R_reads' HO412.out).2.1); (case side3 => refine (Kd.R_reads' (e := 68) (base := w.heap.size) (ok := fun k_ => (((True ∧ some k_ ≠ (.slice Ao23 t390.length co23 : Value).ownBlock) ∧ some k_ ≠ (.slice Ao35 t403.length co35 : Value).ownBlock) ∧ some k_ ≠ (.slice Ao42 t410.length co42 : Value).ownBlock)) (n := t396.length) (c := co28) ?_).2.2; exact (by (with_reducible repeat (first | apply Kd.R_alloc | apply Kd.R_drewN | apply Kd.R_drew)); exact (Kd.R_mono (Kd.R_far (p := ⟨gb415, 4, none⟩) (Kd.R_far (p := ⟨gb415, 3, none⟩) (Kd.R_far (p := ⟨gb415, 2, none⟩) (Kd.R_far (p := ⟨gb415, 1, none⟩) (Kd.R_far (p := ⟨gb415, 0, none⟩) (Kd.R_types HO398.out BK415.out (by decide)) (fun _ hk => hk.2) (.int .i64 t408)) (fun _ hk => hk.2) (.string t409)) (fun _ hk => hk.2) (.slice Ao42 t410.length co42)) (fun _ hk => hk.2) (.int .i64 t413)) (fun _ hk => hk.2) (.string t414)) (fun _ h_ => h_.1)))); (case side4 => exact (Kd.R_reads' HO398.out).2.1); rintro e w44 ⟨rfl, hb⟩; refine ⟨_, rfl, ?_⟩; replace HO392 := am (Kd.R_below (by (with_reducible repeat (first | apply Kd.R_alloc | apply Kd.R_drewN | apply Kd.R_drew)); exact (Kd.R_mono (Kd.R_far (p := ⟨gb415, 4, none⟩) (Kd.R_far (p := ⟨gb415, 3, none⟩) (Kd.R_far (p := ⟨gb415, 2, none⟩) (Kd.R_far (p := ⟨gb415, 1, none⟩) (Kd.R_far (p := ⟨gb415, 0, none⟩) (Kd.R_types HO392.out BK415.out (by decide)) (fun _ hk => hk.2) (.int .i64 t408)) (fun _ hk => hk.2) (.string t409)) (fun _ hk => hk.2) (.slice Ao42 t410.length co42)) (fun _ hk => hk.2) (.int .i64 t413)) (fun _ hk => hk.2) (.string t414)) (fun _ h_ => h_.1))) hb); replace HO398 := am (Kd.R_below (by (with_reducible repeat (first | apply Kd.R_alloc | apply Kd.R_drewN | apply Kd.R_drew)); exact (Kd.R_mono (Kd.R_far (p := ⟨gb415, 4, none⟩) (Kd.R_far (p := ⟨gb415, 3, none⟩) (Kd.R_far (p := ⟨gb415, 2, none⟩) (Kd.R_far (p := ⟨gb415, 1, none⟩) (Kd.R_far (p := ⟨gb415, 0, none⟩) (Kd.R_types HO398.out BK415.out (by decide)) (fun _ hk => hk.2) (.int .i64 t408)) (fun _ hk => hk.2) (.string t409)) (fun _ hk => hk.2) (.slice Ao42 t410.length co42)) (fun _ hk => hk.2) (.int .i64 t413)) (fun _ hk => hk.2) (.string t414)) (fun _ h_ => h_.1))) hb); replace HO405 := am (Kd.R_below (by (with_reducible repeat (first | apply Kd.R_alloc | apply Kd.R_drewN | apply Kd.R_drew)); exact (Kd.R_mono (Kd.R_far (p := ⟨gb415, 4, none⟩) (Kd.R_far (p := ⟨gb415, 3, none⟩) (Kd.R_far (p := ⟨gb415, 2, none⟩) (Kd.R_far (p := ⟨gb415, 1, none⟩) (Kd.R_far (p := ⟨gb415, 0, none⟩) (Kd.R_types HO405.out BK415.out (by decide)) (fun _ hk => hk.2) (.int .i64 t408)) (fun _ hk => hk.2) (.string t409)) (fun _ hk => hk.2) (.slice Ao42 t410.length co42)) (fun _ hk => hk.2) (.int .i64 t413)) (fun _ hk => hk.2) (.string t414)) (fun _ h_ => h_.1))) hb); replace HO412 := am (Kd.R_below (by (with_reducible repeat (first | apply Kd.R_alloc | apply Kd.R_drewN | apply Kd.R_drew)); exact (Kd.R_mono (Kd.R_far (p := ⟨gb415, 4, none⟩) (Kd.R_far (p := ⟨gb415, 3, none⟩) (Kd.R_far (p := ⟨gb415, 2, none⟩) (Kd.R_far (p := ⟨gb415, 1, none⟩) (Kd.R_far (p := ⟨gb415, 0, none⟩) (Kd.R_types HO412.out BK415.out (by decide)) (fun _ hk => hk.2) (.int .i64 t408)) (fun _ hk => hk.2) (.string t409)) (fun _ hk => hk.2) (.slice Ao42 t410.length co42)) (fun _ hk => hk.2) (.int .i64 t413)) (fun _ hk => hk.2) (.string t414)) (fun _ h_ => h_.1))) hb); replace BK387 := am (blk_below (g := gb387) (o := .cells #[.string a0_0, .slice A0_1 l0_1.length c0_1, .int .i64 a0_2] 24 (0, 0)) i_ hb); replace BK401 := am (blk_below (g := gb401) (o := .cells #[.int .i64 t394, .string t395, .slice Ao28 t396.length co28, .int .i64 t399, .string t400] 50 (0, 0)) i_ hb); replace BK407 := am (blk_below (g := gb407) (o := .cells #[.string t402, .slice Ao35 t403.length co35, .int .i64 t406] 29 (0, 0)) i_ hb); replace BK415 := am (blk_below (g := gb415) (o := .cells #[.int .i64 t408, .string t409, .slice Ao42 t410.length co42, .int .i64 t413, .string t414] 50 (0, 0)) (by (with_reducible repeat (first | refine blk_drewN ?_ _ | refine blk_drew ?_ | refine blk_alloc ?_ _)); refine blk_put (cs := #[.int .i64 t408, .string t409, .slice Ao42 t410.length co42, .int .i64 t413, .string (⟨#[]⟩ : ByteArray)]) ?_ 4 _ rfl; (with_reducible repeat (first | refine blk_drewN ?_ _ | refine blk_drew ?_ | refine blk_alloc ?_ _)); refine blk_put (cs := #[.int .i64 t408, .string t409, .slice Ao42 t410.length co42, .int .i64 0, .string (⟨#[]⟩ : ByteArray)]) ?_ 3 _ rfl; (with_reducible repeat (first | refine blk_drewN ?_ _ | refine blk_drew ?_ | refine blk_alloc ?_ _)); refine blk_put (cs := #[.int .i64 t408, .string t409, .slice none 0 0, .int .i64 0, .string (⟨#[]⟩ : ByteArray)]) ?_ 2 _ rfl; (with_reducible repeat (first | refine blk_drewN ?_ _ | refine blk_drew ?_ | refine blk_alloc ?_ _)); refine blk_put (cs := #[.int .i64 t408, .string (⟨#[]⟩ : ByteArray), .slice none 0 0, .int .i64 0, .string (⟨#[]⟩ : ByteArray)]) ?_ 1 _ rfl; (with_reducible repeat (first | refine blk_drewN ?_ _ | refine blk_drew ?_ | refine blk_alloc ?_ _)); refine blk_put (cs := #[.int .i64 0, .string (⟨#[]⟩ : ByteArray), .slice none 0 0, .int .i64 0, .string (⟨#[]⟩ : ByteArray)]) ?_ 0 _ rfl; (with_reducible repeat (first | refine blk_drewN ?_ _ | refine blk_drew ?_ | refine blk_alloc ?_ _)); exact BK415.out) hb); replace HB := am (below_step (w := w) i_ hb); (try clear hb); (try clear hb2); (try clear hk); ((try clear hi))))
        have n0_ := am (Kd.R_drew HO392.out)
        have n1_ := am (Kd.R_drew HO398.out)
        have n2_ := am (Kd.R_drew HO405.out)
        have n3_ := am (Kd.R_drew HO412.out)
        have n4_ := am (blk_drew BK387.out)
        have n5_ := am (blk_drew BK401.out)
        have n6_ := am (blk_drew BK407.out)
        have n7_ := am (blk_drew BK415.out)
        have n8_ := am (below_drew1 HB.out)
        clear HO392
        clear HO398
        clear HO405
        clear HO412
        clear BK387
        clear BK401
        clear BK407
        clear BK415
        clear HB
        have HO392 := n0_
        have HO398 := n1_
        have HO405 := n2_
        have HO412 := n3_
        have BK387 := n4_
        have BK401 := n5_
        have BK407 := n6_
        have BK415 := n7_
        have HB := n8_
        clear n0_ n1_ n2_ n3_ n4_ n5_ n6_ n7_ n8_
        refine start_ (n := 5) (S := fun w' => w'.cell? ⟨gb407, 0, none⟩ = some (.string t402) ∧ w'.cell? ⟨gb407, 1, none⟩ = some (.slice Ao35 t403.length co35) ∧ w'.cell? ⟨gb407, 2, none⟩ = some (.int .i64 t406) ∧ w'.cell? ⟨gb387, 0, none⟩ = some (.string a0_0) ∧ w'.cell? ⟨gb387, 1, none⟩ = some (.slice A0_1 l0_1.length c0_1) ∧ w'.cell? ⟨gb387, 2, none⟩ = some (.int .i64 a0_2)) (ds := []) #[false, false, false, false, false] (by kernel_rfl) rfl rfl ⟨(blk_cell BK407.out 0).trans rfl, (blk_cell BK407.out 1).trans rfl, (blk_cell BK407.out 2).trans rfl, (blk_cell BK387.out 0).trans rfl, (blk_cell BK387.out 1).trans rfl, (blk_cell BK387.out 2).trans rfl⟩ (fun hHeld => ?_)
        generalize w44.drew = w45 at HO392 HO398 HO405 HO412 BK387 BK401 BK407 BK415 HB hHeld ⊢
        refine take_ (i := 0) (N := some 27) (v := ?_) (a' := ?_) #[true, false, false, false, false] rfl rfl (by kernel_rfl) (fun _ _ _ h => h) (Or.inl ⟨by rfl, ?_⟩) hHeld ?_ ?_
        rotate_left
        · rintro w' ⟨s0, s1, s2, s3, s4, s5⟩
          go_simp
          with_reducible rfl
        rotate_left
        · simp only [Act.put, List.setIfInBounds_toArray, List.set_cons_zero, List.set_cons_succ, i64_w, i32_w]
          rfl
        refine take_ (i := 1) (N := some 28) (v := ?_) (a' := ?_) #[true, true, false, false, false] rfl rfl (by kernel_rfl) (fun _ _ _ h => h) (Or.inl ⟨by rfl, ?_⟩) hHeld ?_ ?_
        rotate_left
        · rintro w' ⟨s0, s1, s2, s3, s4, s5⟩
          go_simp
          with_reducible rfl
        rotate_left
        · simp only [Act.put, List.setIfInBounds_toArray, List.set_cons_zero, List.set_cons_succ, i64_w, i32_w]
          rfl
        refine one_ (i := 2) (N := some 29) #[true, true, true, false, false] rfl rfl (by kernel_rfl) (by decide) (fun K hK => ?_)
        refine goes_ Try.func14 (by kernel_rfl) rfl #[.agg #[.string a0_0, .slice A0_1 l0_1.length c0_1, .int .i64 a0_2]] (by rfl) rfl rfl (by (try simp only [List.map_toArray, List.map_cons, List.map_nil]); first | done | rfl | (simp only [List.length_drop, List.length_take]; rfl)) ?_
        with_reducible refine (laws_toHistory.calls k a0_0 _ _ l0_1 a0_2 t417 t418 t421 _ ?side1 ?side2 A13.out).mono ?_
        (case side1 => exact Kd.C_below HR0_1.out i_)
        (case side2 => exact HC0_1.out)
        rintro e w46 ⟨v419, rfl, ho0, hb⟩
        refine ⟨_, rfl, ?_⟩
        have n0_ := am (Kd.R_elder' (by (with_reducible repeat (first | apply Kd.R_alloc | apply Kd.R_drewN | apply Kd.R_drew)); exact HO392.out) (Kd.R_base ho0) hb)
        have n1_ := am (Kd.R_elder' (by (with_reducible repeat (first | apply Kd.R_alloc | apply Kd.R_drewN | apply Kd.R_drew)); exact HO398.out) (Kd.R_base ho0) hb)
        have n2_ := am (Kd.R_elder' (by (with_reducible repeat (first | apply Kd.R_alloc | apply Kd.R_drewN | apply Kd.R_drew)); exact HO405.out) (Kd.R_base ho0) hb)
        have n3_ := am (Kd.R_elder' (by (with_reducible repeat (first | apply Kd.R_alloc | apply Kd.R_drewN | apply Kd.R_drew)); exact HO412.out) (Kd.R_base ho0) hb)
        have n4_ := am (Kd.R_lower (Kd.R_new' (Kd.R_new' (Kd.R_new' (Kd.R_new' ho0 (Kd.R_lt (by (with_reducible repeat (first | apply Kd.R_alloc | apply Kd.R_drewN | apply Kd.R_drew)); exact HO392.out))) (Kd.R_lt (by (with_reducible repeat (first | apply Kd.R_alloc | apply Kd.R_drewN | apply Kd.R_drew)); exact HO398.out))) (Kd.R_lt (by (with_reducible repeat (first | apply Kd.R_alloc | apply Kd.R_drewN | apply Kd.R_drew)); exact HO405.out))) (Kd.R_lt (by (with_reducible repeat (first | apply Kd.R_alloc | apply Kd.R_drewN | apply Kd.R_drew)); exact HO412.out))) (below_size (w := w) i_))
        have n5_ := am (blk_below (g := gb387) (o := .cells #[.string a0_0, .slice A0_1 l0_1.length c0_1, .int .i64 a0_2] 24 (0, 0)) i_ hb)
        have n6_ := am (blk_below (g := gb401) (o := .cells #[.int .i64 t394, .string t395, .slice Ao28 t396.length co28, .int .i64 t399, .string t400] 50 (0, 0)) i_ hb)
        have n7_ := am (blk_below (g := gb407) (o := .cells #[.string t402, .slice Ao35 t403.length co35, .int .i64 t406] 29 (0, 0)) i_ hb)
        have n8_ := am (blk_below (g := gb415) (o := .cells #[.int .i64 t408, .string t409, .slice Ao42 t410.length co42, .int .i64 t413, .string t414] 50 (0, 0)) i_ hb)
        have n9_ := am (below_step (w := w) i_ hb)
        clear HO392
        clear HO398
        clear HO405
        clear HO412
        clear BK387
        clear BK401
        clear BK407
        clear BK415
        clear HB
        have HO392 := n0_
        have HO398 := n1_
        have HO405 := n2_
        have HO412 := n3_
        have HO420 := n4_
        have BK387 := n5_
        have BK401 := n6_
        have BK407 := n7_
        have BK415 := n8_
        have HB := n9_
        clear n0_ n1_ n2_ n3_ n4_ n5_ n6_ n7_ n8_ n9_
        ((try clear hb))
        ((try clear hb2))
        ((try clear hk))
        ((try clear hi))
        ((try clear ho0))
        obtain ⟨Ao47, co47, eo47⟩ := Kd.R_slice HO420.out
        (first | subst eo47 | (injection eo47 with f1_ f2_ f3_; have f4_ := f1_.symm; have f5_ := f3_.symm; clear f1_ f2_ f3_; subst f4_; subst f5_))
        refine hK.out _ _ ⟨(blk_cell BK407.out 0).trans rfl, (blk_cell BK407.out 1).trans rfl, (blk_cell BK407.out 2).trans rfl, (blk_cell BK387.out 0).trans rfl, (blk_cell BK387.out 1).trans rfl, (blk_cell BK387.out 2).trans rfl⟩ (fun hHeld => ?_)
        clear hK K
        refine norm_ (a' := ?_) ?_ ?_
        rotate_left
        · show Act.put _ (some 29) _ = _
          simp only [Act.put, List.setIfInBounds_toArray, List.set_cons_zero, List.set_cons_succ, i64_w, i32_w]
          rfl
        refine one_ (i := 3) (N := some 30) #[true, true, true, true, false] rfl rfl (by kernel_rfl) (by decide) (fun K hK => ?_)
        refine goes_ Try.func16 (by kernel_rfl) rfl #[.agg #[.string t402, .slice Ao35 t403.length co35, .int .i64 t406], .agg #[.string t417, .slice Ao47 t418.length co47, .int .i64 t421]] (by rfl) rfl rfl (by (try simp only [List.map_toArray, List.map_cons, List.map_nil]); first | done | rfl | (simp only [List.length_drop, List.length_take]; rfl)) ?_
        with_reducible refine (laws_eqHistory.calls k t402 _ _ t403 t406 t417 _ _ t418 t421 true _ ?side1 ?side2 ?side3 ?side4 A14.out).mono ?_
        (case side1 => repeat (first | exact (Kd.R_reads' HO405.out).2.2 | (with_reducible refine Kd.C_alloc ?_ _) | (with_reducible refine Kd.C_drewN ?_ _) | (with_reducible refine Kd.C_drew ?_)))
        (case side2 => exact (Kd.R_reads' HO405.out).2.1)
        (case side3 => repeat (first | exact (Kd.R_reads' HO420.out).2.2 | (with_reducible refine Kd.C_alloc ?_ _) | (with_reducible refine Kd.C_drewN ?_ _) | (with_reducible refine Kd.C_drew ?_)))
        (case side4 => exact (Kd.R_reads' HO420.out).2.1)
        rintro e w48 ⟨rfl, hb⟩
        refine ⟨_, rfl, ?_⟩
        have n0_ := am (rB HO392.out i_ hb)
        have n1_ := am (rB HO398.out i_ hb)
        have n2_ := am (rB HO405.out i_ hb)
        have n3_ := am (rB HO412.out i_ hb)
        have n4_ := am (rB HO420.out i_ hb)
        have n5_ := am (blk_below (g := gb387) (o := .cells #[.string a0_0, .slice A0_1 l0_1.length c0_1, .int .i64 a0_2] 24 (0, 0)) i_ hb)
        have n6_ := am (blk_below (g := gb401) (o := .cells #[.int .i64 t394, .string t395, .slice Ao28 t396.length co28, .int .i64 t399, .string t400] 50 (0, 0)) i_ hb)
        have n7_ := am (blk_below (g := gb407) (o := .cells #[.string t402, .slice Ao35 t403.length co35, .int .i64 t406] 29 (0, 0)) i_ hb)
        have n8_ := am (blk_below (g := gb415) (o := .cells #[.int .i64 t408, .string t409, .slice Ao42 t410.length co42, .int .i64 t413, .string t414] 50 (0, 0)) i_ hb)
        have n9_ := am (below_step (w := w) i_ hb)
        clear HO392
        clear HO398
        clear HO405
        clear HO412
        clear HO420
        clear BK387
        clear BK401
        clear BK407
        clear BK415
        clear HB
        have HO392 := n0_
        have HO398 := n1_
        have HO405 := n2_
        have HO412 := n3_
        have HO420 := n4_
        have BK387 := n5_
        have BK401 := n6_
        have BK407 := n7_
        have BK415 := n8_
        have HB := n9_
        clear n0_ n1_ n2_ n3_ n4_ n5_ n6_ n7_ n8_ n9_
        ((try clear hb))
        ((try clear hb2))
        ((try clear hk))
        ((try clear hi))
        refine hK.out _ _ ⟨(blk_cell BK407.out 0).trans rfl, (blk_cell BK407.out 1).trans rfl, (blk_cell BK407.out 2).trans rfl, (blk_cell BK387.out 0).trans rfl, (blk_cell BK387.out 1).trans rfl, (blk_cell BK387.out 2).trans rfl⟩ (fun hHeld => ?_)
        clear hK K
        refine norm_ (a' := ?_) ?_ ?_
        rotate_left
        · show Act.put _ (some 30) _ = _
          simp only [Act.put, List.setIfInBounds_toArray, List.set_cons_zero, List.set_cons_succ, i64_w, i32_w]
          rfl
        refine pure_ (i := 4) (N := some 31) (v := ?_) (a' := ?_) #[true, true, true, true, true] rfl rfl (by kernel_rfl) (fun _ _ _ h => h) (Or.inl ⟨by rfl, ?_⟩) ?_ ?_
        rotate_left
        · intro w'
          go_simp
          with_reducible rfl
        rotate_left
        · simp only [Act.put, List.setIfInBounds_toArray, List.set_cons_zero, List.set_cons_succ, i64_w, i32_w]
          rfl
        refine done_ (by kernel_rfl) ?_
        have hcz49 := bc3 BK407.out
        go_upto_region 14 with (first | ((with_reducible refine gate_callee (f := 32) rfl ?_); refine gL (some 34) Try.func32 #[.agg #[.string t402, .slice Ao35 t403.length co35, .int .i64 t406], .int .i64 1] rfl ?_; (with_reducible refine (laws_markHistory.calls k t402 (fun k_ => some k_ = (.slice Ao35 t403.length co35 : Value).ownBlock) (.slice Ao35 t403.length co35) t403 t406 1 t423 t424 w _ ?side1 ?side2 A16.out).mono ?_); (case side1 => exact i_); (case side2 => exact Kd.R_tight rfl HO405.out); rintro e w50 ⟨rfl, hy0, hb, hkp⟩; refine ⟨_, rfl, ?_⟩; replace BK387 := am (blk_kept (kB BK387.out i_) hkp (fun hs_ => (fun e_ => (Kd.R_ne HO405.out BK387.out (by decide)) e_) hs_)); replace HO392 := am (Kd.R_mono (ok' := fun k_ => some k_ ≠ (.slice Ao28 t396.length co28 : Value).ownBlock ∧ some k_ ≠ (.slice Ao35 t403.length co35 : Value).ownBlock ∧ some k_ ≠ (.slice Ao42 t410.length co42 : Value).ownBlock ∧ some k_ ≠ (.slice Ao47 t418.length co47 : Value).ownBlock) (Kd.R_keptB (HO392.out) hkp (fun k_ hk_ hs_ => (hk_.1.1.2) hs_)) (fun k_ hk_ => ⟨hk_.1.1.1.1.2, hk_.1.1.1.2, hk_.1.1.2, hk_.1.2⟩)); replace HO398 := am (Kd.R_mono (ok' := fun k_ => some k_ ≠ (.slice Ao23 t390.length co23 : Value).ownBlock ∧ some k_ ≠ (.slice Ao35 t403.length co35 : Value).ownBlock ∧ some k_ ≠ (.slice Ao42 t410.length co42 : Value).ownBlock ∧ some k_ ≠ (.slice Ao47 t418.length co47 : Value).ownBlock) (Kd.R_keptB (HO398.out) hkp (fun k_ hk_ hs_ => (hk_.1.1.2) hs_)) (fun k_ hk_ => ⟨hk_.1.1.1.1.2, hk_.1.1.1.2, hk_.1.1.2, hk_.1.2⟩)); replace BK401 := am (blk_kept (kB BK401.out i_) hkp (fun hs_ => (fun e_ => (Kd.R_ne HO405.out BK401.out (by decide)) e_) hs_)); replace BK407 := am (blk_kept (kB BK407.out i_) hkp (fun hs_ => (fun e_ => (Kd.R_ne HO405.out BK407.out (by decide)) e_) hs_)); replace HO412 := am (Kd.R_mono (ok' := fun k_ => some k_ ≠ (.slice Ao23 t390.length co23 : Value).ownBlock ∧ some k_ ≠ (.slice Ao28 t396.length co28 : Value).ownBlock ∧ some k_ ≠ (.slice Ao35 t403.length co35 : Value).ownBlock ∧ some k_ ≠ (.slice Ao47 t418.length co47 : Value).ownBlock) (Kd.R_keptB (HO412.out) hkp (fun k_ hk_ hs_ => (hk_.1.2) hs_)) (fun k_ hk_ => ⟨hk_.1.1.1.1.2, hk_.1.1.1.2, hk_.1.1.2, hk_.1.2⟩)); replace BK415 := am (blk_kept (kB BK415.out i_) hkp (fun hs_ => (fun e_ => (Kd.R_ne HO405.out BK415.out (by decide)) e_) hs_)); replace HO405 := am (Kd.R_reok rfl hy0 (fun k_ e_ => HO405.out.1 k_ e_)); replace HO420 := am (Kd.R_mono (ok' := fun k_ => some k_ ≠ (.slice Ao23 t390.length co23 : Value).ownBlock ∧ some k_ ≠ (.slice Ao28 t396.length co28 : Value).ownBlock ∧ some k_ ≠ (.slice Ao35 t403.length co35 : Value).ownBlock ∧ some k_ ≠ (.slice Ao42 t410.length co42 : Value).ownBlock) (Kd.R_keptB (HO420.out) hkp (fun k_ hk_ hs_ => (hk_.1.2) hs_)) (fun k_ hk_ => ⟨hk_.1.1.1.1.2, hk_.1.1.1.2, hk_.1.1.2, hk_.1.2⟩)); replace HB := am (hb); (try clear hb); (try clear hkp); ((try clear hy0))))
        (try simp only [Act.put, List.setIfInBounds_toArray, List.set_cons_zero, List.set_cons_succ])
        go_cut [42] (fun v42 wc => ∃ (kq : Nat) (x42_16 : Bool), v42 = .bool x42_16 ∧ Fc (laws_FnExactRedo.j0 kq x42_16 a0_0 l0_1 a0_2 t394 t395 t396 t399 t400 t408 t409 t410 t413 t414 = some r) ∧ Fc (kq ≤ k) ∧ Fc (Kd.R k68 68 wc w.heap.size (fun k_ => some k_ ≠ ((.slice Ao35 t403.length co35) : Value).ownBlock ∧ some k_ ≠ ((.slice Ao42 t410.length co42) : Value).ownBlock) (.slice Ao28 t396.length co28) t396) ∧ Fc (Kd.R k68 68 wc w.heap.size (fun k_ => some k_ ≠ ((.slice Ao28 t396.length co28) : Value).ownBlock ∧ some k_ ≠ ((.slice Ao42 t410.length co42) : Value).ownBlock) (.slice Ao35 t403.length co35) t424) ∧ Fc (Kd.R k68 68 wc w.heap.size (fun k_ => some k_ ≠ ((.slice Ao28 t396.length co28) : Value).ownBlock ∧ some k_ ≠ ((.slice Ao35 t403.length co35) : Value).ownBlock) (.slice Ao42 t410.length co42) t410) ∧ Fc (wc.heap[gb387]? = some (.cells #[.string a0_0, (.slice A0_1 l0_1.length c0_1), .int .i64 a0_2] 24 (0, 0))) ∧ Fc (wc.heap[gb401]? = some (.cells #[.int .i64 t394, .string t395, (.slice Ao28 t396.length co28), .int .i64 t399, .string t400] 50 (0, 0))) ∧ Fc (wc.heap[gb407]? = some (.cells #[.string t402, (.slice Ao35 t403.length co35), .int .i64 t406] 29 (0, 0))) ∧ Fc (wc.heap[gb415]? = some (.cells #[.int .i64 t408, .string t409, (.slice Ao42 t410.length co42), .int .i64 t413, .string t414] 50 (0, 0))) ∧ Fc (Below w.heap.size w wc))
        case first =>
          have H := HC17.out
          clear HC17
          by_cases c51 : t423 < 0
          · rw [if_pos c51] at H
            have c51b0 : decide (t423 < 0) = true := decide_eq_true c51
            clear c51
            (first | rw [c51b0] | (simp only [i64_w, i32_w]; rw [c51b0]) | skip)
            have H' := am H
            clear H
            go_wp2
            go_meet
            case rel => exact ⟨_, (true), (by first | rfl | (simp; done) | (simp [*]; done)), H', ⟨by first | omega | exact Nat.le_refl _⟩, ⟨by (with_reducible repeat (first | apply Kd.R_alloc | apply Kd.R_drewN | apply Kd.R_drew)); exact Kd.R_mono HO398.out (fun _ hk => ⟨hk.2.1, hk.2.2.1⟩)⟩, ⟨by (with_reducible repeat (first | apply Kd.R_alloc | apply Kd.R_drewN | apply Kd.R_drew)); exact Kd.R_mono HO405.out (fun _ hk => ⟨hk.1.1.2, hk.1.2⟩)⟩, ⟨by (with_reducible repeat (first | apply Kd.R_alloc | apply Kd.R_drewN | apply Kd.R_drew)); exact Kd.R_mono HO412.out (fun _ hk => ⟨hk.2.1, hk.2.2.1⟩)⟩, ⟨i_⟩, ⟨i_⟩, ⟨i_⟩, ⟨i_⟩, ⟨i_⟩⟩
          · rw [if_neg c51] at H
            have c51b0 : decide (t423 < 0) = false := decide_eq_false c51
            clear c51
            (first | rw [c51b0] | (simp only [i64_w, i32_w]; rw [c51b0]) | skip)
            replace H := Option.bind_eq_some_iff.mp H
            obtain ⟨t425, A520, H⟩ := H
            replace H : (laws_FnExactRedo.j0 k (!t425) a0_0 l0_1 a0_2 t394 t395 t396 t399 t400 t408 t409 t410 t413 t414) = some r := H
            have A52 := am A520
            clear A520
            have H' := am H
            clear H
            have hnb53 := NB415_387.out
            have hnc53 := NB387_415.out
            have hnb54 := NB415_401.out
            have hnc54 := NB401_415.out
            have hnb55 := NB415_407.out
            have hnc55 := NB407_415.out
            have hcz56 := bc5 BK415.out
            have hnb57 := NB401_387.out
            have hnc57 := NB387_401.out
            have hnb58 := NB401_407.out
            have hnc58 := NB407_401.out
            have hcz59 := bc5 BK401.out
            go_wp2_with (first | (go_at_call 31; (with_reducible refine (laws_eqHistoryOut.calls k t408 t409 _ _ t410 t413 t414 t394 t395 _ _ t396 t399 t400 t425 _ ?side1 ?side2 ?side3 ?side4 A52.out).mono ?_); (case side1 => repeat (first | exact (Kd.R_reads' HO412.out).2.2 | (with_reducible refine Kd.C_alloc ?_ _) | (with_reducible refine Kd.C_drewN ?_ _) | (with_reducible refine Kd.C_drew ?_))); (case side2 => exact (Kd.R_reads' HO412.out).2.1); (case side3 => repeat (first | exact (Kd.R_reads' HO398.out).2.2 | (with_reducible refine Kd.C_alloc ?_ _) | (with_reducible refine Kd.C_drewN ?_ _) | (with_reducible refine Kd.C_drew ?_))); (case side4 => exact (Kd.R_reads' HO398.out).2.1); rintro e w60 ⟨rfl, hb⟩; replace HO392 := am (rB HO392.out i_ hb); replace HO398 := am (rB HO398.out i_ hb); replace HO405 := am (rB HO405.out i_ hb); replace HO412 := am (rB HO412.out i_ hb); replace HO420 := am (rB HO420.out i_ hb); replace BK387 := am (blk_below (g := gb387) (o := .cells #[.string a0_0, .slice A0_1 l0_1.length c0_1, .int .i64 a0_2] 24 (0, 0)) i_ hb); replace BK401 := am (blk_below (g := gb401) (o := .cells #[.int .i64 t394, .string t395, .slice Ao28 t396.length co28, .int .i64 t399, .string t400] 50 (0, 0)) i_ hb); replace BK407 := am (blk_below (g := gb407) (o := .cells #[.string t402, .slice Ao35 t403.length co35, .int .i64 t406] 29 (0, 0)) i_ hb); replace BK415 := am (blk_below (g := gb415) (o := .cells #[.int .i64 t408, .string t409, .slice Ao42 t410.length co42, .int .i64 t413, .string t414] 50 (0, 0)) i_ hb); replace HB := am (below_step (w := w) i_ hb); (try clear hb); (try clear hb2); (try clear hk); ((try clear hi))))
            go_meet
            case rel => exact ⟨_, (!t425), (by first | rfl | (simp; done) | (simp [*]; done)), H', ⟨by first | omega | exact Nat.le_refl _⟩, ⟨by (with_reducible repeat (first | apply Kd.R_alloc | apply Kd.R_drewN | apply Kd.R_drew)); exact Kd.R_mono HO398.out (fun _ hk => ⟨hk.2.1, hk.2.2.1⟩)⟩, ⟨by (with_reducible repeat (first | apply Kd.R_alloc | apply Kd.R_drewN | apply Kd.R_drew)); exact Kd.R_mono HO405.out (fun _ hk => ⟨hk.1.1.2, hk.1.2⟩)⟩, ⟨by (with_reducible repeat (first | apply Kd.R_alloc | apply Kd.R_drewN | apply Kd.R_drew)); exact Kd.R_mono HO412.out (fun _ hk => ⟨hk.2.1, hk.2.2.1⟩)⟩, ⟨i_⟩, ⟨i_⟩, ⟨i_⟩, ⟨i_⟩, ⟨i_⟩⟩
        case rest =>
          clear HC17
          (try clear c1); (try clear c2); (try clear p2); (try clear c3); (try clear c3b0); (try clear c4); (try clear c5); (try clear c8); (try clear c12); (try clear c14); (try clear c15); (try clear c16); (try clear c26); (try clear c31); (try clear c32); (try clear c33); (try clear c35); (try clear c36); (try clear c38); (try clear c39); (try clear c40); (try clear c51); (try clear c51b0); (try clear c53); (try clear c54); (try clear c55); (try clear c57); (try clear c58); (try clear hcz19); (try clear hcz21); (try clear hcz27); (try clear hcz29); (try clear hcz34); (try clear hcz41); (try clear hcz43); (try clear hcz49); (try clear hcz56); (try clear hcz59); (try clear hcz5)
          obtain ⟨kq, x42_16, rfl, HA, HJ16, HO_402002, HO_408001, HO_416002, BK387, BK401, BK407, BK415, HB⟩ := hcut
          have hl408001_16 := (Kd.R_reads' HO_408001.out).1
          rw [hl408001_16] at HO_408001
          (try simp only [hl408001_16])
          (try simp only [hl408001_16] at BK387)
          (try simp only [hl408001_16] at BK401)
          (try simp only [hl408001_16] at BK407)
          (try simp only [hl408001_16] at BK415)
          (try simp only [hl408001_16] at HO_402002)
          (try simp only [hl408001_16] at HO_416002)
          cases kq with
          | zero => exact absurd HA.out (by simp [laws_FnExactRedo.j0])
          | succ kj16 =>
            have H := HA.out
            clear HA
            simp only [laws_FnExactRedo.j0] at H
            by_cases c61 : x42_16 = true
            · subst c61
              have H1 : (none) = some r := by rw [if_pos rfl] at H; exact H
              clear H
              have H := H1
              clear H1
              exact absurd H (by simp)
            · replace c61 := Bool.eq_false_iff.mpr c61
              subst c61
              have H1 : ((laws_markHistoryOut.f kj16 t408 t409 t410 t413 t414 1).bind fun bt426 => ((laws_heldHistoryOut.f kj16 t408 t409 bt426.2 t413 t414 1).bind fun t428 => (if t428 < 0 then (none) else (if t428 = bt426.1 then ((laws_toHistory.f kj16 a0_0 l0_1 a0_2).bind fun bt429 => ((impl_Redo.f kj16 bt429.1 bt429.2.1 bt429.2.2).bind fun bt434 => ((laws_eqHistoryOut.f kj16 bt434.1 bt434.2.1 bt434.2.2.1 bt434.2.2.2.1 bt434.2.2.2.2 t394 t395 t396 t399 t400).bind fun t442 => (if t442 = true then ((laws_heldHistoryOut.f kj16 t408 t409 bt426.2 t413 t414 1).bind fun t443 => (if t443 < 0 then (none) else (if t443 = bt426.1 then (some true) else (none)))) else (none))))) else (none))))) = some r := by rw [if_neg (show ¬ (false = true) by decide)] at H; exact H
              clear H
              have H := H1
              clear H1
              replace H := Option.bind_eq_some_iff.mp H
              obtain ⟨⟨t426, t427⟩, A620, H⟩ := H
              replace H : ((laws_heldHistoryOut.f kj16 t408 t409 t427 t413 t414 1).bind fun t428 => (if t428 < 0 then (none) else (if t428 = t426 then ((laws_toHistory.f kj16 a0_0 l0_1 a0_2).bind fun bt429 => ((impl_Redo.f kj16 bt429.1 bt429.2.1 bt429.2.2).bind fun bt434 => ((laws_eqHistoryOut.f kj16 bt434.1 bt434.2.1 bt434.2.2.1 bt434.2.2.2.1 bt434.2.2.2.2 t394 t395 t396 t399 t400).bind fun t442 => (if t442 = true then ((laws_heldHistoryOut.f kj16 t408 t409 t427 t413 t414 1).bind fun t443 => (if t443 < 0 then (none) else (if t443 = t426 then (some true) else (none)))) else (none))))) else (none)))) = some r := H
              have A62 := am A620
              clear A620
              replace H := Option.bind_eq_some_iff.mp H
              obtain ⟨t428, A630, H⟩ := H
              replace H : (if t428 < 0 then (none) else (if t428 = t426 then ((laws_toHistory.f kj16 a0_0 l0_1 a0_2).bind fun bt429 => ((impl_Redo.f kj16 bt429.1 bt429.2.1 bt429.2.2).bind fun bt434 => ((laws_eqHistoryOut.f kj16 bt434.1 bt434.2.1 bt434.2.2.1 bt434.2.2.2.1 bt434.2.2.2.2 t394 t395 t396 t399 t400).bind fun t442 => (if t442 = true then ((laws_heldHistoryOut.f kj16 t408 t409 t427 t413 t414 1).bind fun t443 => (if t443 < 0 then (none) else (if t443 = t426 then (some true) else (none)))) else (none))))) else (none))) = some r := H
              have A63 := am A630
              clear A630
              by_cases c64 : t428 < 0
              · rw [if_pos c64] at H
                exact absurd H (by simp)
              · rw [if_neg c64] at H
                have c64b0 : decide (t428 < 0) = false := decide_eq_false c64
                clear c64
                by_cases c65 : t428 = t426
                · rw [if_pos c65] at H
                  have c65b0 : (t428 == t426) = true := beq_iff_eq.mpr c65
                  have c65b1 : (t428 != t426) = false := bne_eq_false_iff_eq.mpr c65
                  clear c65
                  replace H := Option.bind_eq_some_iff.mp H
                  obtain ⟨⟨t429, t430, t433⟩, A660, H⟩ := H
                  replace H : ((impl_Redo.f kj16 t429 t430 t433).bind fun bt434 => ((laws_eqHistoryOut.f kj16 bt434.1 bt434.2.1 bt434.2.2.1 bt434.2.2.2.1 bt434.2.2.2.2 t394 t395 t396 t399 t400).bind fun t442 => (if t442 = true then ((laws_heldHistoryOut.f kj16 t408 t409 t427 t413 t414 1).bind fun t443 => (if t443 < 0 then (none) else (if t443 = t426 then (some true) else (none)))) else (none)))) = some r := H
                  have A66 := am A660
                  clear A660
                  replace H := Option.bind_eq_some_iff.mp H
                  obtain ⟨⟨t434, t435, t436, t439, t440⟩, A670, H⟩ := H
                  replace H : ((laws_eqHistoryOut.f kj16 t434 t435 t436 t439 t440 t394 t395 t396 t399 t400).bind fun t442 => (if t442 = true then ((laws_heldHistoryOut.f kj16 t408 t409 t427 t413 t414 1).bind fun t443 => (if t443 < 0 then (none) else (if t443 = t426 then (some true) else (none)))) else (none))) = some r := H
                  have A67 := am A670
                  clear A670
                  replace H := Option.bind_eq_some_iff.mp H
                  obtain ⟨t442, A680, H⟩ := H
                  replace H : (if t442 = true then ((laws_heldHistoryOut.f kj16 t408 t409 t427 t413 t414 1).bind fun t443 => (if t443 < 0 then (none) else (if t443 = t426 then (some true) else (none)))) else (none)) = some r := H
                  have A68 := am A680
                  clear A680
                  by_cases c69 : t442 = true
                  · subst c69
                    have H1 : ((laws_heldHistoryOut.f kj16 t408 t409 t427 t413 t414 1).bind fun t443 => (if t443 < 0 then (none) else (if t443 = t426 then (some true) else (none)))) = some r := by rw [if_pos rfl] at H; exact H
                    clear H
                    have H := H1
                    clear H1
                    replace H := Option.bind_eq_some_iff.mp H
                    obtain ⟨t443, A700, H⟩ := H
                    replace H : (if t443 < 0 then (none) else (if t443 = t426 then (some true) else (none))) = some r := H
                    have A70 := am A700
                    clear A700
                    by_cases c71 : t443 < 0
                    · rw [if_pos c71] at H
                      exact absurd H (by simp)
                    · rw [if_neg c71] at H
                      have c71b0 : decide (t443 < 0) = false := decide_eq_false c71
                      clear c71
                      by_cases c72 : t443 = t426
                      · rw [if_pos c72] at H
                        have c72b0 : (t443 == t426) = true := beq_iff_eq.mpr c72
                        have c72b1 : (t443 != t426) = false := bne_eq_false_iff_eq.mpr c72
                        clear c72
                        obtain rfl := Option.some.inj H
                        have hnb73 := NB415_387.out
                        have hnc73 := NB387_415.out
                        have hnb74 := NB415_401.out
                        have hnc74 := NB401_415.out
                        have hnb75 := NB415_407.out
                        have hnc75 := NB407_415.out
                        have hcz76 := bc5 BK415.out
                        go_wp2_with (first | ((with_reducible refine gate_callee (f := 33) rfl ?_); refine gL (some 45) Try.func33 #[.agg #[.int .i64 t408, .string t409, .slice Ao42 t410.length co42, .int .i64 t413, .string t414], .int .i64 1] rfl ?_; (with_reducible refine (laws_markHistoryOut.calls kj16 t408 t409 (fun k_ => some k_ = (.slice Ao42 t410.length co42 : Value).ownBlock) (.slice Ao42 t410.length co42) t410 t413 t414 1 t426 t427 w _ ?side1 ?side2 A62.out).mono ?_); (case side1 => exact i_); (case side2 => exact Kd.R_tight rfl HO_416002.out); rintro e w77 ⟨rfl, hy0, hb, hkp⟩; refine ⟨_, rfl, ?_⟩; replace HO_402002 := am (Kd.R_mono (ok' := fun k_ => some k_ ≠ (.slice Ao35 t424.length co35 : Value).ownBlock ∧ some k_ ≠ (.slice Ao42 t410.length co42 : Value).ownBlock) (Kd.R_keptB (HO_402002.out) hkp (fun k_ hk_ hs_ => (hk_.2) hs_)) (fun k_ hk_ => ⟨hk_.1.1, hk_.1.2⟩)); replace HO_408001 := am (Kd.R_mono (ok' := fun k_ => some k_ ≠ (.slice Ao28 t396.length co28 : Value).ownBlock ∧ some k_ ≠ (.slice Ao42 t410.length co42 : Value).ownBlock) (Kd.R_keptB (HO_408001.out) hkp (fun k_ hk_ hs_ => (hk_.2) hs_)) (fun k_ hk_ => ⟨hk_.1.1, hk_.1.2⟩)); replace BK387 := am (blk_kept (kB BK387.out i_) hkp (fun hs_ => (fun e_ => (Kd.R_ne HO_416002.out BK387.out (by decide)) e_) hs_)); replace BK401 := am (blk_kept (kB BK401.out i_) hkp (fun hs_ => (fun e_ => (Kd.R_ne HO_416002.out BK401.out (by decide)) e_) hs_)); replace BK407 := am (blk_kept (kB BK407.out i_) hkp (fun hs_ => (fun e_ => (Kd.R_ne HO_416002.out BK407.out (by decide)) e_) hs_)); replace BK415 := am (blk_kept (kB BK415.out i_) hkp (fun hs_ => (fun e_ => (Kd.R_ne HO_416002.out BK415.out (by decide)) e_) hs_)); replace HO_416002 := am (Kd.R_reok rfl hy0 (fun k_ e_ => HO_416002.out.1 k_ e_)); replace HB := am (hb); (try clear hb); (try clear hkp); (try clear hy0); have hcz78 := bc5 BK415.out) | ((with_reducible refine gate_callee (f := 34) rfl ?_); refine goesL_ (some 48) rfl rfl Try.func34 (by kernel_rfl) rfl #[.agg #[.int .i64 t408, .string t409, .slice Ao42 t427.length co42, .int .i64 t413, .string t414], .int .i64 1] rfl (by (try simp only [List.map_toArray, List.map_cons, List.map_nil]); first | done | (rw [show t427.length = t410.length from (Kd.R_reads' HO_416002.out).1.symm] <;> rfl) | rfl | (simp only [List.length_drop, List.length_take]; rfl)) ?_; (with_reducible refine (laws_heldHistoryOut.calls kj16 t408 t409 _ _ t427 t413 t414 1 t428 _ ?side1 ?side2 A63.out).mono ?_); (case side1 => repeat (first | exact (Kd.R_reads' HO_416002.out).2.2 | (with_reducible refine Kd.C_alloc ?_ _) | (with_reducible refine Kd.C_drewN ?_ _) | (with_reducible refine Kd.C_drew ?_))); (case side2 => rw [show t427.length = t410.length from (Kd.R_reads' HO_416002.out).1.symm]; exact (Kd.R_reads' HO_416002.out).2.1); rintro e w79 ⟨rfl, hb⟩; refine ⟨_, rfl, ?_⟩; replace HO_402002 := am (rB HO_402002.out i_ hb); replace HO_408001 := am (rB HO_408001.out i_ hb); replace HO_416002 := am (rB HO_416002.out i_ hb); replace BK387 := am (blk_below (g := gb387) (o := .cells #[.string a0_0, .slice A0_1 l0_1.length c0_1, .int .i64 a0_2] 24 (0, 0)) i_ hb); replace BK401 := am (blk_below (g := gb401) (o := .cells #[.int .i64 t394, .string t395, .slice Ao28 t396.length co28, .int .i64 t399, .string t400] 50 (0, 0)) i_ hb); replace BK407 := am (blk_below (g := gb407) (o := .cells #[.string t402, .slice Ao35 t424.length co35, .int .i64 t406] 29 (0, 0)) i_ hb); replace BK415 := am (blk_below (g := gb415) (o := .cells #[.int .i64 t408, .string t409, .slice Ao42 t410.length co42, .int .i64 t413, .string t414] 50 (0, 0)) i_ hb); replace HB := am (below_step (w := w) i_ hb); (try clear hb); (try clear hb2); (try clear hk); (try clear hi); have hnb80 := NB387_401.out; have hnc80 := NB401_387.out; have hnb81 := NB387_407.out; have hnc81 := NB407_387.out; have hcz82 := bc3 BK387.out) | ((with_reducible refine gate_callee (f := 14) rfl ?_); refine gL (some 55) Try.func14 #[.agg #[.string a0_0, .slice A0_1 l0_1.length c0_1, .int .i64 a0_2]] rfl ?_; (with_reducible refine (laws_toHistory.calls kj16 a0_0 _ _ l0_1 a0_2 t429 t430 t433 _ ?side1 ?side2 A66.out).mono ?_); (case side1 => exact Kd.C_below HR0_1.out i_); (case side2 => exact HC0_1.out); rintro e w83 ⟨v431, rfl, ho0, hb⟩; refine ⟨_, rfl, ?_⟩; have HO432 := am (Kd.R_lower (Kd.R_new' (Kd.R_new' (Kd.R_new' ho0 (Kd.R_lt (by (with_reducible repeat (first | apply Kd.R_alloc | apply Kd.R_drewN | apply Kd.R_drew)); exact HO_402002.out))) (Kd.R_lt (by (with_reducible repeat (first | apply Kd.R_alloc | apply Kd.R_drewN | apply Kd.R_drew)); exact HO_408001.out))) (Kd.R_lt (by (with_reducible repeat (first | apply Kd.R_alloc | apply Kd.R_drewN | apply Kd.R_drew)); exact HO_416002.out))) (below_size (w := w) i_)); replace HO_402002 := am (Kd.R_elder' (by (with_reducible repeat (first | apply Kd.R_alloc | apply Kd.R_drewN | apply Kd.R_drew)); exact HO_402002.out) (Kd.R_base ho0) hb); replace HO_408001 := am (Kd.R_elder' (by (with_reducible repeat (first | apply Kd.R_alloc | apply Kd.R_drewN | apply Kd.R_drew)); exact HO_408001.out) (Kd.R_base ho0) hb); replace HO_416002 := am (Kd.R_elder' (by (with_reducible repeat (first | apply Kd.R_alloc | apply Kd.R_drewN | apply Kd.R_drew)); exact HO_416002.out) (Kd.R_base ho0) hb); replace BK387 := am (blk_below (g := gb387) (o := .cells #[.string a0_0, .slice A0_1 l0_1.length c0_1, .int .i64 a0_2] 24 (0, 0)) i_ hb); replace BK401 := am (blk_below (g := gb401) (o := .cells #[.int .i64 t394, .string t395, .slice Ao28 t396.length co28, .int .i64 t399, .string t400] 50 (0, 0)) i_ hb); replace BK407 := am (blk_below (g := gb407) (o := .cells #[.string t402, .slice Ao35 t424.length co35, .int .i64 t406] 29 (0, 0)) i_ hb); replace BK415 := am (blk_below (g := gb415) (o := .cells #[.int .i64 t408, .string t409, .slice Ao42 t410.length co42, .int .i64 t413, .string t414] 50 (0, 0)) i_ hb); replace HB := am (below_step (w := w) i_ hb); (try clear hb); (try clear hb2); (try clear hk); (try clear hi); (try clear ho0); obtain ⟨Ao84, co84, eo84⟩ := Kd.R_slice HO432.out; subst eo84) | ((with_reducible refine gate_callee (f := 36) rfl ?_); refine gL (some 56) Try.func36 #[.agg #[.string t429, .slice Ao84 t430.length co84, .int .i64 t433]] rfl ?_; (with_reducible refine (impl_Redo.calls kj16 t429 _ _ t430 t433 t434 t435 t436 t439 t440 _ ?side1 ?side2 A67.out).mono ?_); (case side1 => repeat (first | exact (Kd.R_reads' HO432.out).2.2 | (with_reducible refine Kd.C_alloc ?_ _) | (with_reducible refine Kd.C_drewN ?_ _) | (with_reducible refine Kd.C_drew ?_))); (case side2 => exact (Kd.R_reads' HO432.out).2.1); rintro e w85 ⟨v437, rfl, ho0, hb⟩; refine ⟨_, rfl, ?_⟩; have HO438 := am (Kd.R_lower (Kd.R_new' (Kd.R_new' (Kd.R_new' (Kd.R_new' ho0 (Kd.R_lt (by (with_reducible repeat (first | apply Kd.R_alloc | apply Kd.R_drewN | apply Kd.R_drew)); exact HO_402002.out))) (Kd.R_lt (by (with_reducible repeat (first | apply Kd.R_alloc | apply Kd.R_drewN | apply Kd.R_drew)); exact HO_408001.out))) (Kd.R_lt (by (with_reducible repeat (first | apply Kd.R_alloc | apply Kd.R_drewN | apply Kd.R_drew)); exact HO_416002.out))) (Kd.R_lt (by (with_reducible repeat (first | apply Kd.R_alloc | apply Kd.R_drewN | apply Kd.R_drew)); exact HO432.out))) (below_size (w := w) i_)); replace HO_402002 := am (Kd.R_elder' (by (with_reducible repeat (first | apply Kd.R_alloc | apply Kd.R_drewN | apply Kd.R_drew)); exact HO_402002.out) (Kd.R_base ho0) hb); replace HO_408001 := am (Kd.R_elder' (by (with_reducible repeat (first | apply Kd.R_alloc | apply Kd.R_drewN | apply Kd.R_drew)); exact HO_408001.out) (Kd.R_base ho0) hb); replace HO_416002 := am (Kd.R_elder' (by (with_reducible repeat (first | apply Kd.R_alloc | apply Kd.R_drewN | apply Kd.R_drew)); exact HO_416002.out) (Kd.R_base ho0) hb); replace HO432 := am (Kd.R_elder' (by (with_reducible repeat (first | apply Kd.R_alloc | apply Kd.R_drewN | apply Kd.R_drew)); exact HO432.out) (Kd.R_base ho0) hb); replace BK387 := am (blk_below (g := gb387) (o := .cells #[.string a0_0, .slice A0_1 l0_1.length c0_1, .int .i64 a0_2] 24 (0, 0)) i_ hb); replace BK401 := am (blk_below (g := gb401) (o := .cells #[.int .i64 t394, .string t395, .slice Ao28 t396.length co28, .int .i64 t399, .string t400] 50 (0, 0)) i_ hb); replace BK407 := am (blk_below (g := gb407) (o := .cells #[.string t402, .slice Ao35 t424.length co35, .int .i64 t406] 29 (0, 0)) i_ hb); replace BK415 := am (blk_below (g := gb415) (o := .cells #[.int .i64 t408, .string t409, .slice Ao42 t410.length co42, .int .i64 t413, .string t414] 50 (0, 0)) i_ hb); replace HB := am (below_step (w := w) i_ hb); (try clear hb); (try clear hb2); (try clear hk); (try clear hi); (try clear ho0)) | ((with_reducible refine gate_dst (N := 10) rfl ?_); refine bX (N := 10) (cs := #[.int .i64 0, .string (⟨#[]⟩ : ByteArray), .slice none 0 0, .int .i64 0, .string (⟨#[]⟩ : ByteArray)]) (t := 50) ?_; intro gb441 hg w86 hbox hb; have BK441 := am (hbox); have GW441 := am ((by rw [hg]; exact (below_size (w := w) i_) : w.heap.size ≤ gb441)); have GE441 := am ((by rw [hg]; exact (below_size (w := w) i_) : w.heap.size ≤ gb441)); have NB387_441 := am ((by rw [hg]; exact Nat.ne_of_lt (blk_lt (g := gb387) (o := .cells #[.string a0_0, .slice A0_1 l0_1.length c0_1, .int .i64 a0_2] 24 (0, 0)) i_) : gb387 ≠ gb441)); have NB441_387 := am ((by rw [hg]; exact Nat.ne_of_gt (blk_lt (g := gb387) (o := .cells #[.string a0_0, .slice A0_1 l0_1.length c0_1, .int .i64 a0_2] 24 (0, 0)) i_) : gb441 ≠ gb387)); have NB401_441 := am ((by rw [hg]; exact Nat.ne_of_lt (blk_lt (g := gb401) (o := .cells #[.int .i64 t394, .string t395, .slice Ao28 t396.length co28, .int .i64 t399, .string t400] 50 (0, 0)) i_) : gb401 ≠ gb441)); have NB441_401 := am ((by rw [hg]; exact Nat.ne_of_gt (blk_lt (g := gb401) (o := .cells #[.int .i64 t394, .string t395, .slice Ao28 t396.length co28, .int .i64 t399, .string t400] 50 (0, 0)) i_) : gb441 ≠ gb401)); have NB407_441 := am ((by rw [hg]; exact Nat.ne_of_lt (blk_lt (g := gb407) (o := .cells #[.string t402, .slice Ao35 t424.length co35, .int .i64 t406] 29 (0, 0)) i_) : gb407 ≠ gb441)); have NB441_407 := am ((by rw [hg]; exact Nat.ne_of_gt (blk_lt (g := gb407) (o := .cells #[.string t402, .slice Ao35 t424.length co35, .int .i64 t406] 29 (0, 0)) i_) : gb441 ≠ gb407)); have NB415_441 := am ((by rw [hg]; exact Nat.ne_of_lt (blk_lt (g := gb415) (o := .cells #[.int .i64 t408, .string t409, .slice Ao42 t410.length co42, .int .i64 t413, .string t414] 50 (0, 0)) i_) : gb415 ≠ gb441)); have NB441_415 := am ((by rw [hg]; exact Nat.ne_of_gt (blk_lt (g := gb415) (o := .cells #[.int .i64 t408, .string t409, .slice Ao42 t410.length co42, .int .i64 t413, .string t414] 50 (0, 0)) i_) : gb441 ≠ gb415)); replace HO_402002 := am (rB HO_402002.out i_ hb); replace HO_408001 := am (rB HO_408001.out i_ hb); replace HO_416002 := am (rB HO_416002.out i_ hb); replace HO432 := am (rB HO432.out i_ hb); replace HO438 := am (rB HO438.out i_ hb); replace BK387 := am (blk_below (g := gb387) (o := .cells #[.string a0_0, .slice A0_1 l0_1.length c0_1, .int .i64 a0_2] 24 (0, 0)) i_ hb); replace BK401 := am (blk_below (g := gb401) (o := .cells #[.int .i64 t394, .string t395, .slice Ao28 t396.length co28, .int .i64 t399, .string t400] 50 (0, 0)) i_ hb); replace BK407 := am (blk_below (g := gb407) (o := .cells #[.string t402, .slice Ao35 t424.length co35, .int .i64 t406] 29 (0, 0)) i_ hb); replace BK415 := am (blk_below (g := gb415) (o := .cells #[.int .i64 t408, .string t409, .slice Ao42 t410.length co42, .int .i64 t413, .string t414] 50 (0, 0)) i_ hb); replace HB := am (below_step (w := w) i_ hb); clear hb hbox hg; have hnb87 := NB441_387.out; have hnc87 := NB387_441.out; have hnb88 := NB441_401.out; have hnc88 := NB401_441.out; have hnb89 := NB441_407.out; have hnc89 := NB407_441.out; have hnb90 := NB441_415.out; have hnc90 := NB415_441.out; have hcz91 := bc5 BK441.out; obtain ⟨Ao92, co92, eo92⟩ := Kd.R_slice HO438.out; subst eo92; have hnb93 := NB401_407.out; have hnc93 := NB407_401.out; have hcz94 := bc5 BK401.out) | ((with_reducible refine gate_callee (f := 31) rfl ?_); refine gL (some 59) Try.func31 #[.agg #[.int .i64 t434, .string t435, .slice Ao92 t436.length co92, .int .i64 t439, .string t440], .agg #[.int .i64 t394, .string t395, .slice Ao28 t396.length co28, .int .i64 t399, .string t400]] rfl ?_; (with_reducible refine (laws_eqHistoryOut.calls kj16 t434 t435 _ _ t436 t439 t440 t394 t395 _ _ t396 t399 t400 true _ ?side1 ?side2 ?side3 ?side4 A68.out).mono ?_); (case side1 => refine (Kd.R_reads' (e := 68) (base := w.heap.size) (ok := fun k_ => ((((True ∧ some k_ ≠ (.slice Ao28 t396.length co28 : Value).ownBlock) ∧ some k_ ≠ (.slice Ao35 t424.length co35 : Value).ownBlock) ∧ some k_ ≠ (.slice Ao42 t410.length co42 : Value).ownBlock) ∧ some k_ ≠ (.slice Ao84 t430.length co84 : Value).ownBlock)) (n := t436.length) (c := co92) ?_).2.2; exact (by (with_reducible repeat (first | apply Kd.R_alloc | apply Kd.R_drewN | apply Kd.R_drew)); exact (Kd.R_mono (Kd.R_far (p := ⟨gb441, 4, none⟩) (Kd.R_far (p := ⟨gb441, 3, none⟩) (Kd.R_far (p := ⟨gb441, 2, none⟩) (Kd.R_far (p := ⟨gb441, 1, none⟩) (Kd.R_far (p := ⟨gb441, 0, none⟩) (Kd.R_types HO438.out BK441.out (by decide)) (fun _ hk => hk.2) (.int .i64 t434)) (fun _ hk => hk.2) (.string t435)) (fun _ hk => hk.2) (.slice Ao92 t436.length co92)) (fun _ hk => hk.2) (.int .i64 t439)) (fun _ hk => hk.2) (.string t440)) (fun _ h_ => h_.1)))); (case side2 => exact (Kd.R_reads' HO438.out).2.1); (case side3 => refine (Kd.R_reads' (e := 68) (base := w.heap.size) (ok := fun k_ => (((some k_ ≠ (.slice Ao35 t424.length co35 : Value).ownBlock ∧ some k_ ≠ (.slice Ao42 t410.length co42 : Value).ownBlock) ∧ some k_ ≠ (.slice Ao84 t430.length co84 : Value).ownBlock) ∧ some k_ ≠ (.slice Ao92 t436.length co92 : Value).ownBlock)) (n := t396.length) (c := co28) ?_).2.2; exact (by (with_reducible repeat (first | apply Kd.R_alloc | apply Kd.R_drewN | apply Kd.R_drew)); exact (Kd.R_mono (Kd.R_far (p := ⟨gb441, 4, none⟩) (Kd.R_far (p := ⟨gb441, 3, none⟩) (Kd.R_far (p := ⟨gb441, 2, none⟩) (Kd.R_far (p := ⟨gb441, 1, none⟩) (Kd.R_far (p := ⟨gb441, 0, none⟩) (Kd.R_types HO_402002.out BK441.out (by decide)) (fun _ hk => hk.2) (.int .i64 t434)) (fun _ hk => hk.2) (.string t435)) (fun _ hk => hk.2) (.slice Ao92 t436.length co92)) (fun _ hk => hk.2) (.int .i64 t439)) (fun _ hk => hk.2) (.string t440)) (fun _ h_ => h_.1)))); (case side4 => exact (Kd.R_reads' HO_402002.out).2.1); rintro e w95 ⟨rfl, hb⟩; refine ⟨_, rfl, ?_⟩; replace HO_402002 := am (Kd.R_below (by (with_reducible repeat (first | apply Kd.R_alloc | apply Kd.R_drewN | apply Kd.R_drew)); exact (Kd.R_mono (Kd.R_far (p := ⟨gb441, 4, none⟩) (Kd.R_far (p := ⟨gb441, 3, none⟩) (Kd.R_far (p := ⟨gb441, 2, none⟩) (Kd.R_far (p := ⟨gb441, 1, none⟩) (Kd.R_far (p := ⟨gb441, 0, none⟩) (Kd.R_types HO_402002.out BK441.out (by decide)) (fun _ hk => hk.2) (.int .i64 t434)) (fun _ hk => hk.2) (.string t435)) (fun _ hk => hk.2) (.slice Ao92 t436.length co92)) (fun _ hk => hk.2) (.int .i64 t439)) (fun _ hk => hk.2) (.string t440)) (fun _ h_ => h_.1))) hb); replace HO_408001 := am (Kd.R_below (by (with_reducible repeat (first | apply Kd.R_alloc | apply Kd.R_drewN | apply Kd.R_drew)); exact (Kd.R_mono (Kd.R_far (p := ⟨gb441, 4, none⟩) (Kd.R_far (p := ⟨gb441, 3, none⟩) (Kd.R_far (p := ⟨gb441, 2, none⟩) (Kd.R_far (p := ⟨gb441, 1, none⟩) (Kd.R_far (p := ⟨gb441, 0, none⟩) (Kd.R_types HO_408001.out BK441.out (by decide)) (fun _ hk => hk.2) (.int .i64 t434)) (fun _ hk => hk.2) (.string t435)) (fun _ hk => hk.2) (.slice Ao92 t436.length co92)) (fun _ hk => hk.2) (.int .i64 t439)) (fun _ hk => hk.2) (.string t440)) (fun _ h_ => h_.1))) hb); replace HO_416002 := am (Kd.R_below (by (with_reducible repeat (first | apply Kd.R_alloc | apply Kd.R_drewN | apply Kd.R_drew)); exact (Kd.R_mono (Kd.R_far (p := ⟨gb441, 4, none⟩) (Kd.R_far (p := ⟨gb441, 3, none⟩) (Kd.R_far (p := ⟨gb441, 2, none⟩) (Kd.R_far (p := ⟨gb441, 1, none⟩) (Kd.R_far (p := ⟨gb441, 0, none⟩) (Kd.R_types HO_416002.out BK441.out (by decide)) (fun _ hk => hk.2) (.int .i64 t434)) (fun _ hk => hk.2) (.string t435)) (fun _ hk => hk.2) (.slice Ao92 t436.length co92)) (fun _ hk => hk.2) (.int .i64 t439)) (fun _ hk => hk.2) (.string t440)) (fun _ h_ => h_.1))) hb); replace HO432 := am (Kd.R_below (by (with_reducible repeat (first | apply Kd.R_alloc | apply Kd.R_drewN | apply Kd.R_drew)); exact (Kd.R_mono (Kd.R_far (p := ⟨gb441, 4, none⟩) (Kd.R_far (p := ⟨gb441, 3, none⟩) (Kd.R_far (p := ⟨gb441, 2, none⟩) (Kd.R_far (p := ⟨gb441, 1, none⟩) (Kd.R_far (p := ⟨gb441, 0, none⟩) (Kd.R_types HO432.out BK441.out (by decide)) (fun _ hk => hk.2) (.int .i64 t434)) (fun _ hk => hk.2) (.string t435)) (fun _ hk => hk.2) (.slice Ao92 t436.length co92)) (fun _ hk => hk.2) (.int .i64 t439)) (fun _ hk => hk.2) (.string t440)) (fun _ h_ => h_.1))) hb); replace HO438 := am (Kd.R_below (by (with_reducible repeat (first | apply Kd.R_alloc | apply Kd.R_drewN | apply Kd.R_drew)); exact (Kd.R_mono (Kd.R_far (p := ⟨gb441, 4, none⟩) (Kd.R_far (p := ⟨gb441, 3, none⟩) (Kd.R_far (p := ⟨gb441, 2, none⟩) (Kd.R_far (p := ⟨gb441, 1, none⟩) (Kd.R_far (p := ⟨gb441, 0, none⟩) (Kd.R_types HO438.out BK441.out (by decide)) (fun _ hk => hk.2) (.int .i64 t434)) (fun _ hk => hk.2) (.string t435)) (fun _ hk => hk.2) (.slice Ao92 t436.length co92)) (fun _ hk => hk.2) (.int .i64 t439)) (fun _ hk => hk.2) (.string t440)) (fun _ h_ => h_.1))) hb); replace BK387 := am (blk_below (g := gb387) (o := .cells #[.string a0_0, .slice A0_1 l0_1.length c0_1, .int .i64 a0_2] 24 (0, 0)) i_ hb); replace BK401 := am (blk_below (g := gb401) (o := .cells #[.int .i64 t394, .string t395, .slice Ao28 t396.length co28, .int .i64 t399, .string t400] 50 (0, 0)) i_ hb); replace BK407 := am (blk_below (g := gb407) (o := .cells #[.string t402, .slice Ao35 t424.length co35, .int .i64 t406] 29 (0, 0)) i_ hb); replace BK415 := am (blk_below (g := gb415) (o := .cells #[.int .i64 t408, .string t409, .slice Ao42 t410.length co42, .int .i64 t413, .string t414] 50 (0, 0)) i_ hb); replace BK441 := am (blk_below (g := gb441) (o := .cells #[.int .i64 t434, .string t435, .slice Ao92 t436.length co92, .int .i64 t439, .string t440] 50 (0, 0)) (by (with_reducible repeat (first | refine blk_drewN ?_ _ | refine blk_drew ?_ | refine blk_alloc ?_ _)); refine blk_put (cs := #[.int .i64 t434, .string t435, .slice Ao92 t436.length co92, .int .i64 t439, .string (⟨#[]⟩ : ByteArray)]) ?_ 4 _ rfl; (with_reducible repeat (first | refine blk_drewN ?_ _ | refine blk_drew ?_ | refine blk_alloc ?_ _)); refine blk_put (cs := #[.int .i64 t434, .string t435, .slice Ao92 t436.length co92, .int .i64 0, .string (⟨#[]⟩ : ByteArray)]) ?_ 3 _ rfl; (with_reducible repeat (first | refine blk_drewN ?_ _ | refine blk_drew ?_ | refine blk_alloc ?_ _)); refine blk_put (cs := #[.int .i64 t434, .string t435, .slice none 0 0, .int .i64 0, .string (⟨#[]⟩ : ByteArray)]) ?_ 2 _ rfl; (with_reducible repeat (first | refine blk_drewN ?_ _ | refine blk_drew ?_ | refine blk_alloc ?_ _)); refine blk_put (cs := #[.int .i64 t434, .string (⟨#[]⟩ : ByteArray), .slice none 0 0, .int .i64 0, .string (⟨#[]⟩ : ByteArray)]) ?_ 1 _ rfl; (with_reducible repeat (first | refine blk_drewN ?_ _ | refine blk_drew ?_ | refine blk_alloc ?_ _)); refine blk_put (cs := #[.int .i64 0, .string (⟨#[]⟩ : ByteArray), .slice none 0 0, .int .i64 0, .string (⟨#[]⟩ : ByteArray)]) ?_ 0 _ rfl; (with_reducible repeat (first | refine blk_drewN ?_ _ | refine blk_drew ?_ | refine blk_alloc ?_ _)); exact BK441.out) hb); replace HB := am (below_step (w := w) i_ hb); (try clear hb); (try clear hb2); (try clear hk); (try clear hi); have hcz96 := bc5 BK415.out) | ((with_reducible refine gate_callee (f := 34) rfl ?_); refine goesL_ (some 63) rfl rfl Try.func34 (by kernel_rfl) rfl #[.agg #[.int .i64 t408, .string t409, .slice Ao42 t427.length co42, .int .i64 t413, .string t414], .int .i64 1] rfl (by (try simp only [List.map_toArray, List.map_cons, List.map_nil]); first | done | (rw [show t427.length = t410.length from (Kd.R_reads' HO_416002.out).1.symm] <;> rfl) | rfl | (simp only [List.length_drop, List.length_take]; rfl)) ?_; (with_reducible refine (laws_heldHistoryOut.calls kj16 t408 t409 _ _ t427 t413 t414 1 t443 _ ?side1 ?side2 A70.out).mono ?_); (case side1 => repeat (first | exact (Kd.R_reads' HO_416002.out).2.2 | (with_reducible refine Kd.C_alloc ?_ _) | (with_reducible refine Kd.C_drewN ?_ _) | (with_reducible refine Kd.C_drew ?_))); (case side2 => rw [show t427.length = t410.length from (Kd.R_reads' HO_416002.out).1.symm]; exact (Kd.R_reads' HO_416002.out).2.1); rintro e w97 ⟨rfl, hb⟩; refine ⟨_, rfl, ?_⟩; replace HO_402002 := am (rB HO_402002.out i_ hb); replace HO_408001 := am (rB HO_408001.out i_ hb); replace HO_416002 := am (rB HO_416002.out i_ hb); replace HO432 := am (rB HO432.out i_ hb); replace HO438 := am (rB HO438.out i_ hb); replace BK387 := am (blk_below (g := gb387) (o := .cells #[.string a0_0, .slice A0_1 l0_1.length c0_1, .int .i64 a0_2] 24 (0, 0)) i_ hb); replace BK401 := am (blk_below (g := gb401) (o := .cells #[.int .i64 t394, .string t395, .slice Ao28 t396.length co28, .int .i64 t399, .string t400] 50 (0, 0)) i_ hb); replace BK407 := am (blk_below (g := gb407) (o := .cells #[.string t402, .slice Ao35 t424.length co35, .int .i64 t406] 29 (0, 0)) i_ hb); replace BK415 := am (blk_below (g := gb415) (o := .cells #[.int .i64 t408, .string t409, .slice Ao42 t410.length co42, .int .i64 t413, .string t414] 50 (0, 0)) i_ hb); replace BK441 := am (blk_below (g := gb441) (o := .cells #[.int .i64 t434, .string t435, .slice Ao92 t436.length co92, .int .i64 t439, .string t440] 50 (0, 0)) i_ hb); replace HB := am (below_step (w := w) i_ hb); (try clear hb); (try clear hb2); (try clear hk); ((try clear hi))))
                        go_ret
                        exact ⟨by first | rfl | (simp [errW_none, errW_some] <;> rfl) | (simp [*, errW_none, errW_some] <;> rfl), i_⟩
                      · rw [if_neg c72] at H
                        exact absurd H (by simp)
                  · replace c69 := Bool.eq_false_iff.mpr c69
                    subst c69
                    have H1 : (none) = some r := by rw [if_neg (show ¬ (false = true) by decide)] at H; exact H
                    clear H
                    have H := H1
                    clear H1
                    exact absurd H (by simp)
                · rw [if_neg c65] at H
                  exact absurd H (by simp)
      · replace c15 := Bool.eq_false_iff.mpr c15
        subst c15
        have H1 : (none) = some r := by rw [if_neg (show ¬ (false = true) by decide)] at H; exact H
        clear H
        have H := H1
        clear H1
        exact absurd H (by simp)
    · replace c12 := Bool.eq_false_iff.mpr c12
      subst c12
      have H1 : (none) = some r := by rw [if_neg (show ¬ (false = true) by decide)] at H; exact H
      clear H
      have H := H1
      clear H1
      exact absurd H (by simp)

end Go.Proofs.Ytopbiepiceajnaa.Q
