-- Written by xprint.py (wip/ of this repository): one Lean function and its proof for each Go function.
import Derived.Test.YtopbiepiceajnaaQx0
import Derived.Test.YtopbiepiceajnaaQx1
import Derived.Test.YtopbiepiceajnaaQx2
import Derived.Test.YtopbiepiceajnaaQx4
import Derived.Test.YtopbiepiceajnaaQx5
import Derived.Test.YtopbiepiceajnaaQx6
import Derived.Test.YtopbiepiceajnaaQx7
namespace Go.Proofs.Ytopbiepiceajnaa.Q
open Go.RowKit Go.Proofs.YtopbiepiceajnaaW.PrintWords Go.Proofs.YtopbiepiceajnaaW.PrintLast Go.Proofs.YtopbiepiceajnaaW.PrintMore
attribute [local go_sem] max2_int min2_int max_two min_two max_three min_three max_four min_four   -- for this text's walks alone
set_option linter.unusedVariables false
set_option linter.unusedSimpArgs false

/-! ### laws_FnExactUndo: function 7 -/
def laws_FnExactUndo.j0 : Nat → Bool → ByteArray → List (S96) → Int → Int → ByteArray → List (S68) → Int → ByteArray → Int → ByteArray → List (S68) → Int → ByteArray → Option (Bool)
  | 0, _, _, _, _, _, _, _, _, _, _, _, _, _, _ => none
  | k + 1, x42, x303000, x303001, x303002, x317000, x317001, x317002, x317003, x317004, x331000, x331001, x331002, x331003, x331004 => if x42 = true then (none) else ((laws_markHistoryOut.f k x331000 x331001 x331002 x331003 x331004 1).bind fun bt341 => ((laws_heldHistoryOut.f k x331000 x331001 bt341.2 x331003 x331004 1).bind fun t343 => (if t343 < 0 then (none) else (if t343 = bt341.1 then ((laws_toHistory.f k x303000 x303001 x303002).bind fun bt344 => ((impl_Undo.f k bt344.1 bt344.2.1 bt344.2.2).bind fun bt349 => ((laws_eqHistoryOut.f k bt349.1 bt349.2.1 bt349.2.2.1 bt349.2.2.2.1 bt349.2.2.2.2 x317000 x317001 x317002 x317003 x317004).bind fun t357 => (if t357 = true then ((laws_heldHistoryOut.f k x331000 x331001 bt341.2 x331003 x331004 1).bind fun t358 => (if t358 < 0 then (none) else (if t358 = bt341.1 then (some true) else (none)))) else (none))))) else (none)))))
def laws_FnExactUndo.f (k : Nat) (a0_0 : ByteArray) (l0_1 : List (S96)) (a0_2 : Int) : Option (Bool) := (laws_szHistory.f k a0_0 l0_1 a0_2 1048576).bind fun t303 => (if t303 < 0 then (some true) else ((laws_toHistory.f k a0_0 l0_1 a0_2).bind fun bt304 => ((spec_Undo.f k bt304.1 bt304.2.1 bt304.2.2).bind fun bt309 => ((laws_toHistory.f k a0_0 l0_1 a0_2).bind fun bt317 => ((impl_Undo.f k bt317.1 bt317.2.1 bt317.2.2).bind fun bt323 => ((laws_eqHistoryOut.f k bt323.1 bt323.2.1 bt323.2.2.1 bt323.2.2.2.1 bt323.2.2.2.2 bt309.1 bt309.2.1 bt309.2.2.1 bt309.2.2.2.1 bt309.2.2.2.2).bind fun t331 => (if t331 = true then ((laws_toHistory.f k a0_0 l0_1 a0_2).bind fun bt332 => ((laws_eqHistory.f k bt317.1 bt317.2.1 bt317.2.2 bt332.1 bt332.2.1 bt332.2.2).bind fun t337 => (if t337 = true then ((laws_markHistory.f k bt317.1 bt317.2.1 bt317.2.2 1).bind fun bt338 => (if bt338.1 < 0 then (laws_FnExactUndo.j0 k true a0_0 l0_1 a0_2 bt309.1 bt309.2.1 bt309.2.2.1 bt309.2.2.2.1 bt309.2.2.2.2 bt323.1 bt323.2.1 bt323.2.2.1 bt323.2.2.2.1 bt323.2.2.2.2) else ((laws_eqHistoryOut.f k bt323.1 bt323.2.1 bt323.2.2.1 bt323.2.2.2.1 bt323.2.2.2.2 bt309.1 bt309.2.1 bt309.2.2.1 bt309.2.2.2.1 bt309.2.2.2.2).bind fun t340 => (laws_FnExactUndo.j0 k (!t340) a0_0 l0_1 a0_2 bt309.1 bt309.2.1 bt309.2.2.1 bt309.2.2.2.1 bt309.2.2.2.2 bt323.1 bt323.2.1 bt323.2.2.1 bt323.2.2.2.1 bt323.2.2.2.2)))) else (none)))) else (none))))))))
theorem laws_FnExactUndo.mono_l : ∀ k, (∀ y0 y1 y2 y3 y4 y5 y6 y7 y8 y9 y10 y11 y12 y13, LeO (laws_FnExactUndo.j0 k y0 y1 y2 y3 y4 y5 y6 y7 y8 y9 y10 y11 y12 y13) (laws_FnExactUndo.j0 (k + 1) y0 y1 y2 y3 y4 y5 y6 y7 y8 y9 y10 y11 y12 y13))
  | 0 => fun _ _ _ _ _ _ _ _ _ _ _ _ _ _ r h => by simp [laws_FnExactUndo.j0] at h
  | k + 1 => by
    have ih0 := laws_FnExactUndo.mono_l k
    · intro y0 y1 y2 y3 y4 y5 y6 y7 y8 y9 y10 y11 y12 y13
      unfold laws_FnExactUndo.j0
      repeat' first
      | (with_reducible exact ih0 _ _ _ _ _ _ _ _ _ _ _ _ _ _)
      | (with_reducible exact impl_Undo.mono _ _ _ _)
      | (with_reducible exact laws_eqHistory.mono _ _ _ _ _ _ _)
      | (with_reducible exact laws_eqHistoryOut.mono _ _ _ _ _ _ _ _ _ _ _)
      | (with_reducible exact laws_heldHistoryOut.mono _ _ _ _ _ _ _)
      | (with_reducible exact laws_markHistory.mono _ _ _ _ _)
      | (with_reducible exact laws_markHistoryOut.mono _ _ _ _ _ _ _)
      | (with_reducible exact laws_szHistory.mono _ _ _ _ _)
      | (with_reducible exact laws_toHistory.mono _ _ _ _)
      | (with_reducible exact spec_Undo.mono _ _ _ _)
      | (with_reducible exact LeO.refl _)
      | (with_reducible exact LeO.none _)
      | (with_reducible refine LeO.ite ?_ ?_)
      | (with_reducible refine LeO.bind ?_ (fun _ => ?_))
      | exact ih0 _ _ _ _ _ _ _ _ _ _ _ _ _ _
      | exact impl_Undo.mono _ _ _ _
      | exact laws_eqHistory.mono _ _ _ _ _ _ _
      | exact laws_eqHistoryOut.mono _ _ _ _ _ _ _ _ _ _ _
      | exact laws_heldHistoryOut.mono _ _ _ _ _ _ _
      | exact laws_markHistory.mono _ _ _ _ _
      | exact laws_markHistoryOut.mono _ _ _ _ _ _ _
      | exact laws_szHistory.mono _ _ _ _ _
      | exact laws_toHistory.mono _ _ _ _
      | exact spec_Undo.mono _ _ _ _
      | exact LeO.none _
      | refine LeO.ite ?_ ?_
      | refine LeO.bind ?_ (fun _ => ?_)
theorem laws_FnExactUndo.mono : ∀ a0 a1 a2 k, LeO (laws_FnExactUndo.f k a0 a1 a2) (laws_FnExactUndo.f (k + 1) a0 a1 a2) := by
  intro a0 a1 a2 k
  have ih0 := laws_FnExactUndo.mono_l k
  unfold laws_FnExactUndo.f
  repeat' first
      | (with_reducible exact ih0 _ _ _ _ _ _ _ _ _ _ _ _ _ _)
      | (with_reducible exact impl_Undo.mono _ _ _ _)
      | (with_reducible exact laws_eqHistory.mono _ _ _ _ _ _ _)
      | (with_reducible exact laws_eqHistoryOut.mono _ _ _ _ _ _ _ _ _ _ _)
      | (with_reducible exact laws_heldHistoryOut.mono _ _ _ _ _ _ _)
      | (with_reducible exact laws_markHistory.mono _ _ _ _ _)
      | (with_reducible exact laws_markHistoryOut.mono _ _ _ _ _ _ _)
      | (with_reducible exact laws_szHistory.mono _ _ _ _ _)
      | (with_reducible exact laws_toHistory.mono _ _ _ _)
      | (with_reducible exact spec_Undo.mono _ _ _ _)
      | (with_reducible exact LeO.refl _)
      | (with_reducible exact LeO.none _)
      | (with_reducible refine LeO.ite ?_ ?_)
      | (with_reducible refine LeO.bind ?_ (fun _ => ?_))
      | exact ih0 _ _ _ _ _ _ _ _ _ _ _ _ _ _
      | exact impl_Undo.mono _ _ _ _
      | exact laws_eqHistory.mono _ _ _ _ _ _ _
      | exact laws_eqHistoryOut.mono _ _ _ _ _ _ _ _ _ _ _
      | exact laws_heldHistoryOut.mono _ _ _ _ _ _ _
      | exact laws_markHistory.mono _ _ _ _ _
      | exact laws_markHistoryOut.mono _ _ _ _ _ _ _
      | exact laws_szHistory.mono _ _ _ _ _
      | exact laws_toHistory.mono _ _ _ _
      | exact spec_Undo.mono _ _ _ _
      | exact LeO.none _
      | refine LeO.ite ?_ ?_
      | refine LeO.bind ?_ (fun _ => ?_)
set_option maxHeartbeats 8000000 in
set_option maxRecDepth 100000 in
theorem laws_FnExactUndo.calls (k : Nat) (a0_0 : ByteArray) (A0_1 : Option Addr) (c0_1 : Nat) (l0_1 : List (S96)) (a0_2 : Int) (r : Bool) (w : World) (hr0_1 : Kd.C k96 w A0_1 l0_1.length l0_1) (hc0_1 : l0_1.length ≤ c0_1) (h : laws_FnExactUndo.f k a0_0 l0_1 a0_2 = some r) :
    Calls Try.prog 7 #[.agg #[.string a0_0, .slice A0_1 l0_1.length c0_1, .int .i64 a0_2]] w fun e w' => e = .returned (.bool r) ∧ Below w.heap.size w w' := by
  have hu24 := Try.underlying24
  have hu50 := Try.underlying50
  have hu29 := Try.underlying29
  have HR0_1 := am hr0_1
  have HC0_1 := am hc0_1
  clear hr0_1 hc0_1
  have HB := am (Below.refl w.heap.size w)
  have H : ((laws_szHistory.f k a0_0 l0_1 a0_2 1048576).bind fun t303 => (if t303 < 0 then (some true) else ((laws_toHistory.f k a0_0 l0_1 a0_2).bind fun bt304 => ((spec_Undo.f k bt304.1 bt304.2.1 bt304.2.2).bind fun bt309 => ((laws_toHistory.f k a0_0 l0_1 a0_2).bind fun bt317 => ((impl_Undo.f k bt317.1 bt317.2.1 bt317.2.2).bind fun bt323 => ((laws_eqHistoryOut.f k bt323.1 bt323.2.1 bt323.2.2.1 bt323.2.2.2.1 bt323.2.2.2.2 bt309.1 bt309.2.1 bt309.2.2.1 bt309.2.2.2.1 bt309.2.2.2.2).bind fun t331 => (if t331 = true then ((laws_toHistory.f k a0_0 l0_1 a0_2).bind fun bt332 => ((laws_eqHistory.f k bt317.1 bt317.2.1 bt317.2.2 bt332.1 bt332.2.1 bt332.2.2).bind fun t337 => (if t337 = true then ((laws_markHistory.f k bt317.1 bt317.2.1 bt317.2.2 1).bind fun bt338 => (if bt338.1 < 0 then (laws_FnExactUndo.j0 k true a0_0 l0_1 a0_2 bt309.1 bt309.2.1 bt309.2.2.1 bt309.2.2.2.1 bt309.2.2.2.2 bt323.1 bt323.2.1 bt323.2.2.1 bt323.2.2.2.1 bt323.2.2.2.2) else ((laws_eqHistoryOut.f k bt323.1 bt323.2.1 bt323.2.2.1 bt323.2.2.2.1 bt323.2.2.2.2 bt309.1 bt309.2.1 bt309.2.2.1 bt309.2.2.2.1 bt309.2.2.2.2).bind fun t340 => (laws_FnExactUndo.j0 k (!t340) a0_0 l0_1 a0_2 bt309.1 bt309.2.1 bt309.2.2.1 bt309.2.2.2.1 bt309.2.2.2.2 bt323.1 bt323.2.1 bt323.2.2.1 bt323.2.2.2.1 bt323.2.2.2.2)))) else (none)))) else (none))))))))) = some r := h
  clear h
  replace H := Option.bind_eq_some_iff.mp H
  obtain ⟨t303, A20, H⟩ := H
  replace H : (if t303 < 0 then (some true) else ((laws_toHistory.f k a0_0 l0_1 a0_2).bind fun bt304 => ((spec_Undo.f k bt304.1 bt304.2.1 bt304.2.2).bind fun bt309 => ((laws_toHistory.f k a0_0 l0_1 a0_2).bind fun bt317 => ((impl_Undo.f k bt317.1 bt317.2.1 bt317.2.2).bind fun bt323 => ((laws_eqHistoryOut.f k bt323.1 bt323.2.1 bt323.2.2.1 bt323.2.2.2.1 bt323.2.2.2.2 bt309.1 bt309.2.1 bt309.2.2.1 bt309.2.2.2.1 bt309.2.2.2.2).bind fun t331 => (if t331 = true then ((laws_toHistory.f k a0_0 l0_1 a0_2).bind fun bt332 => ((laws_eqHistory.f k bt317.1 bt317.2.1 bt317.2.2 bt332.1 bt332.2.1 bt332.2.2).bind fun t337 => (if t337 = true then ((laws_markHistory.f k bt317.1 bt317.2.1 bt317.2.2 1).bind fun bt338 => (if bt338.1 < 0 then (laws_FnExactUndo.j0 k true a0_0 l0_1 a0_2 bt309.1 bt309.2.1 bt309.2.2.1 bt309.2.2.2.1 bt309.2.2.2.2 bt323.1 bt323.2.1 bt323.2.2.1 bt323.2.2.2.1 bt323.2.2.2.2) else ((laws_eqHistoryOut.f k bt323.1 bt323.2.1 bt323.2.2.1 bt323.2.2.2.1 bt323.2.2.2.2 bt309.1 bt309.2.1 bt309.2.2.1 bt309.2.2.2.1 bt309.2.2.2.2).bind fun t340 => (laws_FnExactUndo.j0 k (!t340) a0_0 l0_1 a0_2 bt309.1 bt309.2.1 bt309.2.2.1 bt309.2.2.2.1 bt309.2.2.2.2 bt323.1 bt323.2.1 bt323.2.2.1 bt323.2.2.2.1 bt323.2.2.2.2)))) else (none)))) else (none)))))))) = some r := H
  have A2 := am A20
  clear A20
  by_cases c3 : t303 < 0
  · rw [if_pos c3] at H
    have c3b0 : decide (t303 < 0) = true := decide_eq_true c3
    clear c3
    obtain rfl := Option.some.inj H
    go_enter Try.func7, Try.ntmps7
    go_wp2_with (first | ((with_reducible refine gate_dst (N := 1) rfl ?_); refine bX (N := 1) (cs := #[.string a0_0, .slice A0_1 l0_1.length c0_1, .int .i64 a0_2]) (t := 24) ?_; intro gb302 hg w4 hbox hb; have BK302 := am (hbox); have GW302 := am ((by rw [hg]; exact (below_size (w := w) i_) : w.heap.size ≤ gb302)); have GE302 := am ((by rw [hg]; exact (below_size (w := w) i_) : w.heap.size ≤ gb302)); replace HB := am (below_step (w := w) i_ hb); clear hb hbox hg; have hcz5 := bc3 BK302.out) | ((with_reducible refine gate_callee (f := 12) rfl ?_); refine gL (some 13) Try.func12 #[.agg #[.string a0_0, .slice A0_1 l0_1.length c0_1, .int .i64 a0_2], .int .i64 1048576] rfl ?_; (with_reducible refine (laws_szHistory.calls k a0_0 _ _ l0_1 a0_2 1048576 t303 _ ?side1 ?side2 A2.out).mono ?_); (case side1 => exact Kd.C_below HR0_1.out i_); (case side2 => exact HC0_1.out); rintro e w6 ⟨rfl, hb⟩; refine ⟨_, rfl, ?_⟩; replace BK302 := am (blk_below (g := gb302) (o := .cells #[.string a0_0, .slice A0_1 l0_1.length c0_1, .int .i64 a0_2] 24 (0, 0)) i_ hb); replace HB := am (below_step (w := w) i_ hb); (try clear hb); (try clear hb2); (try clear hk); ((try clear hi))))
    go_ret
    exact ⟨by first | rfl | (simp [errW_none, errW_some] <;> rfl) | (simp [*, errW_none, errW_some] <;> rfl), i_⟩
  · rw [if_neg c3] at H
    have c3b0 : decide (t303 < 0) = false := decide_eq_false c3
    clear c3
    replace H := Option.bind_eq_some_iff.mp H
    obtain ⟨⟨t304, t305, t308⟩, A70, H⟩ := H
    replace H : ((spec_Undo.f k t304 t305 t308).bind fun bt309 => ((laws_toHistory.f k a0_0 l0_1 a0_2).bind fun bt317 => ((impl_Undo.f k bt317.1 bt317.2.1 bt317.2.2).bind fun bt323 => ((laws_eqHistoryOut.f k bt323.1 bt323.2.1 bt323.2.2.1 bt323.2.2.2.1 bt323.2.2.2.2 bt309.1 bt309.2.1 bt309.2.2.1 bt309.2.2.2.1 bt309.2.2.2.2).bind fun t331 => (if t331 = true then ((laws_toHistory.f k a0_0 l0_1 a0_2).bind fun bt332 => ((laws_eqHistory.f k bt317.1 bt317.2.1 bt317.2.2 bt332.1 bt332.2.1 bt332.2.2).bind fun t337 => (if t337 = true then ((laws_markHistory.f k bt317.1 bt317.2.1 bt317.2.2 1).bind fun bt338 => (if bt338.1 < 0 then (laws_FnExactUndo.j0 k true a0_0 l0_1 a0_2 bt309.1 bt309.2.1 bt309.2.2.1 bt309.2.2.2.1 bt309.2.2.2.2 bt323.1 bt323.2.1 bt323.2.2.1 bt323.2.2.2.1 bt323.2.2.2.2) else ((laws_eqHistoryOut.f k bt323.1 bt323.2.1 bt323.2.2.1 bt323.2.2.2.1 bt323.2.2.2.2 bt309.1 bt309.2.1 bt309.2.2.1 bt309.2.2.2.1 bt309.2.2.2.2).bind fun t340 => (laws_FnExactUndo.j0 k (!t340) a0_0 l0_1 a0_2 bt309.1 bt309.2.1 bt309.2.2.1 bt309.2.2.2.1 bt309.2.2.2.2 bt323.1 bt323.2.1 bt323.2.2.1 bt323.2.2.2.1 bt323.2.2.2.2)))) else (none)))) else (none)))))) = some r := H
    have A7 := am A70
    clear A70
    replace H := Option.bind_eq_some_iff.mp H
    obtain ⟨⟨t309, t310, t311, t314, t315⟩, A80, H⟩ := H
    replace H : ((laws_toHistory.f k a0_0 l0_1 a0_2).bind fun bt317 => ((impl_Undo.f k bt317.1 bt317.2.1 bt317.2.2).bind fun bt323 => ((laws_eqHistoryOut.f k bt323.1 bt323.2.1 bt323.2.2.1 bt323.2.2.2.1 bt323.2.2.2.2 t309 t310 t311 t314 t315).bind fun t331 => (if t331 = true then ((laws_toHistory.f k a0_0 l0_1 a0_2).bind fun bt332 => ((laws_eqHistory.f k bt317.1 bt317.2.1 bt317.2.2 bt332.1 bt332.2.1 bt332.2.2).bind fun t337 => (if t337 = true then ((laws_markHistory.f k bt317.1 bt317.2.1 bt317.2.2 1).bind fun bt338 => (if bt338.1 < 0 then (laws_FnExactUndo.j0 k true a0_0 l0_1 a0_2 t309 t310 t311 t314 t315 bt323.1 bt323.2.1 bt323.2.2.1 bt323.2.2.2.1 bt323.2.2.2.2) else ((laws_eqHistoryOut.f k bt323.1 bt323.2.1 bt323.2.2.1 bt323.2.2.2.1 bt323.2.2.2.2 t309 t310 t311 t314 t315).bind fun t340 => (laws_FnExactUndo.j0 k (!t340) a0_0 l0_1 a0_2 t309 t310 t311 t314 t315 bt323.1 bt323.2.1 bt323.2.2.1 bt323.2.2.2.1 bt323.2.2.2.2)))) else (none)))) else (none))))) = some r := H
    have A8 := am A80
    clear A80
    replace H := Option.bind_eq_some_iff.mp H
    obtain ⟨⟨t317, t318, t321⟩, A90, H⟩ := H
    replace H : ((impl_Undo.f k t317 t318 t321).bind fun bt323 => ((laws_eqHistoryOut.f k bt323.1 bt323.2.1 bt323.2.2.1 bt323.2.2.2.1 bt323.2.2.2.2 t309 t310 t311 t314 t315).bind fun t331 => (if t331 = true then ((laws_toHistory.f k a0_0 l0_1 a0_2).bind fun bt332 => ((laws_eqHistory.f k t317 t318 t321 bt332.1 bt332.2.1 bt332.2.2).bind fun t337 => (if t337 = true then ((laws_markHistory.f k t317 t318 t321 1).bind fun bt338 => (if bt338.1 < 0 then (laws_FnExactUndo.j0 k true a0_0 l0_1 a0_2 t309 t310 t311 t314 t315 bt323.1 bt323.2.1 bt323.2.2.1 bt323.2.2.2.1 bt323.2.2.2.2) else ((laws_eqHistoryOut.f k bt323.1 bt323.2.1 bt323.2.2.1 bt323.2.2.2.1 bt323.2.2.2.2 t309 t310 t311 t314 t315).bind fun t340 => (laws_FnExactUndo.j0 k (!t340) a0_0 l0_1 a0_2 t309 t310 t311 t314 t315 bt323.1 bt323.2.1 bt323.2.2.1 bt323.2.2.2.1 bt323.2.2.2.2)))) else (none)))) else (none)))) = some r := H
    have A9 := am A90
    clear A90
    replace H := Option.bind_eq_some_iff.mp H
    obtain ⟨⟨t323, t324, t325, t328, t329⟩, A100, H⟩ := H
    replace H : ((laws_eqHistoryOut.f k t323 t324 t325 t328 t329 t309 t310 t311 t314 t315).bind fun t331 => (if t331 = true then ((laws_toHistory.f k a0_0 l0_1 a0_2).bind fun bt332 => ((laws_eqHistory.f k t317 t318 t321 bt332.1 bt332.2.1 bt332.2.2).bind fun t337 => (if t337 = true then ((laws_markHistory.f k t317 t318 t321 1).bind fun bt338 => (if bt338.1 < 0 then (laws_FnExactUndo.j0 k true a0_0 l0_1 a0_2 t309 t310 t311 t314 t315 t323 t324 t325 t328 t329) else ((laws_eqHistoryOut.f k t323 t324 t325 t328 t329 t309 t310 t311 t314 t315).bind fun t340 => (laws_FnExactUndo.j0 k (!t340) a0_0 l0_1 a0_2 t309 t310 t311 t314 t315 t323 t324 t325 t328 t329)))) else (none)))) else (none))) = some r := H
    have A10 := am A100
    clear A100
    replace H := Option.bind_eq_some_iff.mp H
    obtain ⟨t331, A110, H⟩ := H
    replace H : (if t331 = true then ((laws_toHistory.f k a0_0 l0_1 a0_2).bind fun bt332 => ((laws_eqHistory.f k t317 t318 t321 bt332.1 bt332.2.1 bt332.2.2).bind fun t337 => (if t337 = true then ((laws_markHistory.f k t317 t318 t321 1).bind fun bt338 => (if bt338.1 < 0 then (laws_FnExactUndo.j0 k true a0_0 l0_1 a0_2 t309 t310 t311 t314 t315 t323 t324 t325 t328 t329) else ((laws_eqHistoryOut.f k t323 t324 t325 t328 t329 t309 t310 t311 t314 t315).bind fun t340 => (laws_FnExactUndo.j0 k (!t340) a0_0 l0_1 a0_2 t309 t310 t311 t314 t315 t323 t324 t325 t328 t329)))) else (none)))) else (none)) = some r := H
    have A11 := am A110
    clear A110
    by_cases c12 : t331 = true
    · subst c12
      have H1 : ((laws_toHistory.f k a0_0 l0_1 a0_2).bind fun bt332 => ((laws_eqHistory.f k t317 t318 t321 bt332.1 bt332.2.1 bt332.2.2).bind fun t337 => (if t337 = true then ((laws_markHistory.f k t317 t318 t321 1).bind fun bt338 => (if bt338.1 < 0 then (laws_FnExactUndo.j0 k true a0_0 l0_1 a0_2 t309 t310 t311 t314 t315 t323 t324 t325 t328 t329) else ((laws_eqHistoryOut.f k t323 t324 t325 t328 t329 t309 t310 t311 t314 t315).bind fun t340 => (laws_FnExactUndo.j0 k (!t340) a0_0 l0_1 a0_2 t309 t310 t311 t314 t315 t323 t324 t325 t328 t329)))) else (none)))) = some r := by rw [if_pos rfl] at H; exact H
      clear H
      have H := H1
      clear H1
      replace H := Option.bind_eq_some_iff.mp H
      obtain ⟨⟨t332, t333, t336⟩, A130, H⟩ := H
      replace H : ((laws_eqHistory.f k t317 t318 t321 t332 t333 t336).bind fun t337 => (if t337 = true then ((laws_markHistory.f k t317 t318 t321 1).bind fun bt338 => (if bt338.1 < 0 then (laws_FnExactUndo.j0 k true a0_0 l0_1 a0_2 t309 t310 t311 t314 t315 t323 t324 t325 t328 t329) else ((laws_eqHistoryOut.f k t323 t324 t325 t328 t329 t309 t310 t311 t314 t315).bind fun t340 => (laws_FnExactUndo.j0 k (!t340) a0_0 l0_1 a0_2 t309 t310 t311 t314 t315 t323 t324 t325 t328 t329)))) else (none))) = some r := H
      have A13 := am A130
      clear A130
      replace H := Option.bind_eq_some_iff.mp H
      obtain ⟨t337, A140, H⟩ := H
      replace H : (if t337 = true then ((laws_markHistory.f k t317 t318 t321 1).bind fun bt338 => (if bt338.1 < 0 then (laws_FnExactUndo.j0 k true a0_0 l0_1 a0_2 t309 t310 t311 t314 t315 t323 t324 t325 t328 t329) else ((laws_eqHistoryOut.f k t323 t324 t325 t328 t329 t309 t310 t311 t314 t315).bind fun t340 => (laws_FnExactUndo.j0 k (!t340) a0_0 l0_1 a0_2 t309 t310 t311 t314 t315 t323 t324 t325 t328 t329)))) else (none)) = some r := H
      have A14 := am A140
      clear A140
      by_cases c15 : t337 = true
      · subst c15
        have H1 : ((laws_markHistory.f k t317 t318 t321 1).bind fun bt338 => (if bt338.1 < 0 then (laws_FnExactUndo.j0 k true a0_0 l0_1 a0_2 t309 t310 t311 t314 t315 t323 t324 t325 t328 t329) else ((laws_eqHistoryOut.f k t323 t324 t325 t328 t329 t309 t310 t311 t314 t315).bind fun t340 => (laws_FnExactUndo.j0 k (!t340) a0_0 l0_1 a0_2 t309 t310 t311 t314 t315 t323 t324 t325 t328 t329)))) = some r := by rw [if_pos rfl] at H; exact H
        clear H
        have H := H1
        clear H1
        replace H := Option.bind_eq_some_iff.mp H
        obtain ⟨⟨t338, t339⟩, A160, H⟩ := H
        replace H : (if t338 < 0 then (laws_FnExactUndo.j0 k true a0_0 l0_1 a0_2 t309 t310 t311 t314 t315 t323 t324 t325 t328 t329) else ((laws_eqHistoryOut.f k t323 t324 t325 t328 t329 t309 t310 t311 t314 t315).bind fun t340 => (laws_FnExactUndo.j0 k (!t340) a0_0 l0_1 a0_2 t309 t310 t311 t314 t315 t323 t324 t325 t328 t329))) = some r := H
        have A16 := am A160
        clear A160
        have HC17 := am H
        clear H
        go_enter Try.func7, Try.ntmps7
        try go_wp2_with (first | ((with_reducible refine gate_dst (N := 1) rfl ?_); refine bX (N := 1) (cs := #[.string a0_0, .slice A0_1 l0_1.length c0_1, .int .i64 a0_2]) (t := 24) ?_; intro gb302 hg w18 hbox hb; have BK302 := am (hbox); have GW302 := am ((by rw [hg]; exact (below_size (w := w) i_) : w.heap.size ≤ gb302)); have GE302 := am ((by rw [hg]; exact (below_size (w := w) i_) : w.heap.size ≤ gb302)); replace HB := am (below_step (w := w) i_ hb); clear hb hbox hg; have hcz19 := bc3 BK302.out) | ((with_reducible refine gate_callee (f := 12) rfl ?_); refine gL (some 13) Try.func12 #[.agg #[.string a0_0, .slice A0_1 l0_1.length c0_1, .int .i64 a0_2], .int .i64 1048576] rfl ?_; (with_reducible refine (laws_szHistory.calls k a0_0 _ _ l0_1 a0_2 1048576 t303 _ ?side1 ?side2 A2.out).mono ?_); (case side1 => exact Kd.C_below HR0_1.out i_); (case side2 => exact HC0_1.out); rintro e w20 ⟨rfl, hb⟩; refine ⟨_, rfl, ?_⟩; replace BK302 := am (blk_below (g := gb302) (o := .cells #[.string a0_0, .slice A0_1 l0_1.length c0_1, .int .i64 a0_2] 24 (0, 0)) i_ hb); replace HB := am (below_step (w := w) i_ hb); (try clear hb); (try clear hb2); (try clear hk); (try clear hi); have hcz21 := bc3 BK302.out) | ((with_reducible refine gate_callee (f := 14) rfl ?_); refine gL (some 17) Try.func14 #[.agg #[.string a0_0, .slice A0_1 l0_1.length c0_1, .int .i64 a0_2]] rfl ?_; (with_reducible refine (laws_toHistory.calls k a0_0 _ _ l0_1 a0_2 t304 t305 t308 _ ?side1 ?side2 A7.out).mono ?_); (case side1 => exact Kd.C_below HR0_1.out i_); (case side2 => exact HC0_1.out); rintro e w22 ⟨v306, rfl, ho0, hb⟩; refine ⟨_, rfl, ?_⟩; have HO307 := am (Kd.R_lower ho0 (below_size (w := w) i_)); replace BK302 := am (blk_below (g := gb302) (o := .cells #[.string a0_0, .slice A0_1 l0_1.length c0_1, .int .i64 a0_2] 24 (0, 0)) i_ hb); replace HB := am (below_step (w := w) i_ hb); (try clear hb); (try clear hb2); (try clear hk); (try clear hi); (try clear ho0); obtain ⟨Ao23, co23, eo23⟩ := Kd.R_slice HO307.out; subst eo23) | ((with_reducible refine gate_callee (f := 29) rfl ?_); refine gL (some 18) Try.func29 #[.agg #[.string t304, .slice Ao23 t305.length co23, .int .i64 t308]] rfl ?_; (with_reducible refine (spec_Undo.calls k t304 _ _ t305 t308 t309 t310 t311 t314 t315 _ ?side1 ?side2 A8.out).mono ?_); (case side1 => repeat (first | exact (Kd.R_reads' HO307.out).2.2 | (with_reducible refine Kd.C_alloc ?_ _) | (with_reducible refine Kd.C_drewN ?_ _) | (with_reducible refine Kd.C_drew ?_))); (case side2 => exact (Kd.R_reads' HO307.out).2.1); rintro e w24 ⟨v312, rfl, ho0, hb⟩; refine ⟨_, rfl, ?_⟩; have HO313 := am (Kd.R_lower (Kd.R_new' ho0 (Kd.R_lt (by (with_reducible repeat (first | apply Kd.R_alloc | apply Kd.R_drewN | apply Kd.R_drew)); exact HO307.out))) (below_size (w := w) i_)); replace HO307 := am (Kd.R_elder' (by (with_reducible repeat (first | apply Kd.R_alloc | apply Kd.R_drewN | apply Kd.R_drew)); exact HO307.out) (Kd.R_base ho0) hb); replace BK302 := am (blk_below (g := gb302) (o := .cells #[.string a0_0, .slice A0_1 l0_1.length c0_1, .int .i64 a0_2] 24 (0, 0)) i_ hb); replace HB := am (below_step (w := w) i_ hb); (try clear hb); (try clear hb2); (try clear hk); (try clear hi); (try clear ho0)) | ((with_reducible refine gate_dst (N := 4) rfl ?_); refine bX (N := 4) (cs := #[.int .i64 0, .string (⟨#[]⟩ : ByteArray), .slice none 0 0, .int .i64 0, .string (⟨#[]⟩ : ByteArray)]) (t := 50) ?_; intro gb316 hg w25 hbox hb; have BK316 := am (hbox); have GW316 := am ((by rw [hg]; exact (below_size (w := w) i_) : w.heap.size ≤ gb316)); have GE316 := am ((by rw [hg]; exact (below_size (w := w) i_) : w.heap.size ≤ gb316)); have NB302_316 := am ((by rw [hg]; exact Nat.ne_of_lt (blk_lt (g := gb302) (o := .cells #[.string a0_0, .slice A0_1 l0_1.length c0_1, .int .i64 a0_2] 24 (0, 0)) i_) : gb302 ≠ gb316)); have NB316_302 := am ((by rw [hg]; exact Nat.ne_of_gt (blk_lt (g := gb302) (o := .cells #[.string a0_0, .slice A0_1 l0_1.length c0_1, .int .i64 a0_2] 24 (0, 0)) i_) : gb316 ≠ gb302)); replace HO307 := am (rB HO307.out i_ hb); replace HO313 := am (rB HO313.out i_ hb); replace BK302 := am (blk_below (g := gb302) (o := .cells #[.string a0_0, .slice A0_1 l0_1.length c0_1, .int .i64 a0_2] 24 (0, 0)) i_ hb); replace HB := am (below_step (w := w) i_ hb); clear hb hbox hg; have hnb26 := NB316_302.out; have hnc26 := NB302_316.out; have hcz27 := bc5 BK316.out; obtain ⟨Ao28, co28, eo28⟩ := Kd.R_slice HO313.out; subst eo28; have hcz29 := bc3 BK302.out) | ((with_reducible refine gate_callee (f := 14) rfl ?_); refine gL (some 20) Try.func14 #[.agg #[.string a0_0, .slice A0_1 l0_1.length c0_1, .int .i64 a0_2]] rfl ?_; (with_reducible refine (laws_toHistory.calls k a0_0 _ _ l0_1 a0_2 t317 t318 t321 _ ?side1 ?side2 A9.out).mono ?_); (case side1 => exact Kd.C_below HR0_1.out (i_)); (case side2 => exact HC0_1.out); rintro e w30 ⟨v319, rfl, ho0, hb⟩; refine ⟨_, rfl, ?_⟩; have HO320 := am (Kd.R_lower (Kd.R_new' (Kd.R_new' ho0 (Kd.R_lt (by (with_reducible repeat (first | apply Kd.R_alloc | apply Kd.R_drewN | apply Kd.R_drew)); exact (Kd.R_mono (Kd.R_far (p := ⟨gb316, 4, none⟩) (Kd.R_far (p := ⟨gb316, 3, none⟩) (Kd.R_far (p := ⟨gb316, 2, none⟩) (Kd.R_far (p := ⟨gb316, 1, none⟩) (Kd.R_far (p := ⟨gb316, 0, none⟩) (Kd.R_types HO307.out BK316.out (by decide)) (fun _ hk => hk.2) (.int .i64 t309)) (fun _ hk => hk.2) (.string t310)) (fun _ hk => hk.2) (.slice Ao28 t311.length co28)) (fun _ hk => hk.2) (.int .i64 t314)) (fun _ hk => hk.2) (.string t315)) (fun _ h_ => h_.1))))) (Kd.R_lt (by (with_reducible repeat (first | apply Kd.R_alloc | apply Kd.R_drewN | apply Kd.R_drew)); exact (Kd.R_mono (Kd.R_far (p := ⟨gb316, 4, none⟩) (Kd.R_far (p := ⟨gb316, 3, none⟩) (Kd.R_far (p := ⟨gb316, 2, none⟩) (Kd.R_far (p := ⟨gb316, 1, none⟩) (Kd.R_far (p := ⟨gb316, 0, none⟩) (Kd.R_types HO313.out BK316.out (by decide)) (fun _ hk => hk.2) (.int .i64 t309)) (fun _ hk => hk.2) (.string t310)) (fun _ hk => hk.2) (.slice Ao28 t311.length co28)) (fun _ hk => hk.2) (.int .i64 t314)) (fun _ hk => hk.2) (.string t315)) (fun _ h_ => h_.1))))) (below_size (w := w) i_)); replace HO307 := am (Kd.R_elder' (by (with_reducible repeat (first | apply Kd.R_alloc | apply Kd.R_drewN | apply Kd.R_drew)); exact (Kd.R_mono (Kd.R_far (p := ⟨gb316, 4, none⟩) (Kd.R_far (p := ⟨gb316, 3, none⟩) (Kd.R_far (p := ⟨gb316, 2, none⟩) (Kd.R_far (p := ⟨gb316, 1, none⟩) (Kd.R_far (p := ⟨gb316, 0, none⟩) (Kd.R_types HO307.out BK316.out (by decide)) (fun _ hk => hk.2) (.int .i64 t309)) (fun _ hk => hk.2) (.string t310)) (fun _ hk => hk.2) (.slice Ao28 t311.length co28)) (fun _ hk => hk.2) (.int .i64 t314)) (fun _ hk => hk.2) (.string t315)) (fun _ h_ => h_.1))) (Kd.R_base ho0) hb); replace HO313 := am (Kd.R_elder' (by (with_reducible repeat (first | apply Kd.R_alloc | apply Kd.R_drewN | apply Kd.R_drew)); exact (Kd.R_mono (Kd.R_far (p := ⟨gb316, 4, none⟩) (Kd.R_far (p := ⟨gb316, 3, none⟩) (Kd.R_far (p := ⟨gb316, 2, none⟩) (Kd.R_far (p := ⟨gb316, 1, none⟩) (Kd.R_far (p := ⟨gb316, 0, none⟩) (Kd.R_types HO313.out BK316.out (by decide)) (fun _ hk => hk.2) (.int .i64 t309)) (fun _ hk => hk.2) (.string t310)) (fun _ hk => hk.2) (.slice Ao28 t311.length co28)) (fun _ hk => hk.2) (.int .i64 t314)) (fun _ hk => hk.2) (.string t315)) (fun _ h_ => h_.1))) (Kd.R_base ho0) hb); replace BK302 := am (blk_below (g := gb302) (o := .cells #[.string a0_0, .slice A0_1 l0_1.length c0_1, .int .i64 a0_2] 24 (0, 0)) i_ hb); replace BK316 := am (blk_below (g := gb316) (o := .cells #[.int .i64 t309, .string t310, .slice Ao28 t311.length co28, .int .i64 t314, .string t315] 50 (0, 0)) (by (with_reducible repeat (first | refine blk_drewN ?_ _ | refine blk_drew ?_ | refine blk_alloc ?_ _)); refine blk_put (cs := #[.int .i64 t309, .string t310, .slice Ao28 t311.length co28, .int .i64 t314, .string (⟨#[]⟩ : ByteArray)]) ?_ 4 _ rfl; (with_reducible repeat (first | refine blk_drewN ?_ _ | refine blk_drew ?_ | refine blk_alloc ?_ _)); refine blk_put (cs := #[.int .i64 t309, .string t310, .slice Ao28 t311.length co28, .int .i64 0, .string (⟨#[]⟩ : ByteArray)]) ?_ 3 _ rfl; (with_reducible repeat (first | refine blk_drewN ?_ _ | refine blk_drew ?_ | refine blk_alloc ?_ _)); refine blk_put (cs := #[.int .i64 t309, .string t310, .slice none 0 0, .int .i64 0, .string (⟨#[]⟩ : ByteArray)]) ?_ 2 _ rfl; (with_reducible repeat (first | refine blk_drewN ?_ _ | refine blk_drew ?_ | refine blk_alloc ?_ _)); refine blk_put (cs := #[.int .i64 t309, .string (⟨#[]⟩ : ByteArray), .slice none 0 0, .int .i64 0, .string (⟨#[]⟩ : ByteArray)]) ?_ 1 _ rfl; (with_reducible repeat (first | refine blk_drewN ?_ _ | refine blk_drew ?_ | refine blk_alloc ?_ _)); refine blk_put (cs := #[.int .i64 0, .string (⟨#[]⟩ : ByteArray), .slice none 0 0, .int .i64 0, .string (⟨#[]⟩ : ByteArray)]) ?_ 0 _ rfl; (with_reducible repeat (first | refine blk_drewN ?_ _ | refine blk_drew ?_ | refine blk_alloc ?_ _)); exact BK316.out) hb); replace HB := am (below_step (w := w) i_ hb); (try clear hb); (try clear hb2); (try clear hk); (try clear hi); (try clear ho0)) | ((with_reducible refine gate_dst (N := 5) rfl ?_); refine bX (N := 5) (cs := #[.string (⟨#[]⟩ : ByteArray), .slice none 0 0, .int .i64 0]) (t := 29) ?_; intro gb322 hg w31 hbox hb; have BK322 := am (hbox); have GW322 := am ((by rw [hg]; exact (below_size (w := w) i_) : w.heap.size ≤ gb322)); have GE322 := am ((by rw [hg]; exact (below_size (w := w) i_) : w.heap.size ≤ gb322)); have NB302_322 := am ((by rw [hg]; exact Nat.ne_of_lt (blk_lt (g := gb302) (o := .cells #[.string a0_0, .slice A0_1 l0_1.length c0_1, .int .i64 a0_2] 24 (0, 0)) i_) : gb302 ≠ gb322)); have NB322_302 := am ((by rw [hg]; exact Nat.ne_of_gt (blk_lt (g := gb302) (o := .cells #[.string a0_0, .slice A0_1 l0_1.length c0_1, .int .i64 a0_2] 24 (0, 0)) i_) : gb322 ≠ gb302)); have NB316_322 := am ((by rw [hg]; exact Nat.ne_of_lt (blk_lt (g := gb316) (o := .cells #[.int .i64 t309, .string t310, .slice Ao28 t311.length co28, .int .i64 t314, .string t315] 50 (0, 0)) i_) : gb316 ≠ gb322)); have NB322_316 := am ((by rw [hg]; exact Nat.ne_of_gt (blk_lt (g := gb316) (o := .cells #[.int .i64 t309, .string t310, .slice Ao28 t311.length co28, .int .i64 t314, .string t315] 50 (0, 0)) i_) : gb322 ≠ gb316)); replace HO307 := am (rB HO307.out i_ hb); replace HO313 := am (rB HO313.out i_ hb); replace HO320 := am (rB HO320.out i_ hb); replace BK302 := am (blk_below (g := gb302) (o := .cells #[.string a0_0, .slice A0_1 l0_1.length c0_1, .int .i64 a0_2] 24 (0, 0)) i_ hb); replace BK316 := am (blk_below (g := gb316) (o := .cells #[.int .i64 t309, .string t310, .slice Ao28 t311.length co28, .int .i64 t314, .string t315] 50 (0, 0)) i_ hb); replace HB := am (below_step (w := w) i_ hb); clear hb hbox hg; have hnb32 := NB322_302.out; have hnc32 := NB302_322.out; have hnb33 := NB322_316.out; have hnc33 := NB316_322.out; have hcz34 := bc3 BK322.out; obtain ⟨Ao35, co35, eo35⟩ := Kd.R_slice HO320.out; subst eo35) | ((with_reducible refine gate_callee (f := 30) rfl ?_); refine gL (some 22) Try.func30 #[.agg #[.string t317, .slice Ao35 t318.length co35, .int .i64 t321]] rfl ?_; (with_reducible refine (impl_Undo.calls k t317 _ _ t318 t321 t323 t324 t325 t328 t329 _ ?side1 ?side2 A10.out).mono ?_); (case side1 => refine (Kd.R_reads' (e := 68) (base := w.heap.size) (ok := fun k_ => ((True ∧ some k_ ≠ (.slice Ao23 t305.length co23 : Value).ownBlock) ∧ some k_ ≠ (.slice Ao28 t311.length co28 : Value).ownBlock)) (n := t318.length) (c := co35) ?_).2.2; exact (by (with_reducible repeat (first | apply Kd.R_alloc | apply Kd.R_drewN | apply Kd.R_drew)); exact (Kd.R_mono (Kd.R_far (p := ⟨gb322, 2, none⟩) (Kd.R_far (p := ⟨gb322, 1, none⟩) (Kd.R_far (p := ⟨gb322, 0, none⟩) (Kd.R_types HO320.out BK322.out (by decide)) (fun _ hk => hk.2) (.string t317)) (fun _ hk => hk.2) (.slice Ao35 t318.length co35)) (fun _ hk => hk.2) (.int .i64 t321)) (fun _ h_ => h_.1)))); (case side2 => exact (Kd.R_reads' HO320.out).2.1); rintro e w36 ⟨v326, rfl, ho0, hb⟩; refine ⟨_, rfl, ?_⟩; have HO327 := am (Kd.R_lower (Kd.R_new' (Kd.R_new' (Kd.R_new' ho0 (Kd.R_lt (by (with_reducible repeat (first | apply Kd.R_alloc | apply Kd.R_drewN | apply Kd.R_drew)); exact (Kd.R_mono (Kd.R_far (p := ⟨gb322, 2, none⟩) (Kd.R_far (p := ⟨gb322, 1, none⟩) (Kd.R_far (p := ⟨gb322, 0, none⟩) (Kd.R_types HO307.out BK322.out (by decide)) (fun _ hk => hk.2) (.string t317)) (fun _ hk => hk.2) (.slice Ao35 t318.length co35)) (fun _ hk => hk.2) (.int .i64 t321)) (fun _ h_ => h_.1))))) (Kd.R_lt (by (with_reducible repeat (first | apply Kd.R_alloc | apply Kd.R_drewN | apply Kd.R_drew)); exact (Kd.R_mono (Kd.R_far (p := ⟨gb322, 2, none⟩) (Kd.R_far (p := ⟨gb322, 1, none⟩) (Kd.R_far (p := ⟨gb322, 0, none⟩) (Kd.R_types HO313.out BK322.out (by decide)) (fun _ hk => hk.2) (.string t317)) (fun _ hk => hk.2) (.slice Ao35 t318.length co35)) (fun _ hk => hk.2) (.int .i64 t321)) (fun _ h_ => h_.1))))) (Kd.R_lt (by (with_reducible repeat (first | apply Kd.R_alloc | apply Kd.R_drewN | apply Kd.R_drew)); exact (Kd.R_mono (Kd.R_far (p := ⟨gb322, 2, none⟩) (Kd.R_far (p := ⟨gb322, 1, none⟩) (Kd.R_far (p := ⟨gb322, 0, none⟩) (Kd.R_types HO320.out BK322.out (by decide)) (fun _ hk => hk.2) (.string t317)) (fun _ hk => hk.2) (.slice Ao35 t318.length co35)) (fun _ hk => hk.2) (.int .i64 t321)) (fun _ h_ => h_.1))))) (below_size (w := w) i_)); replace HO307 := am (Kd.R_elder' (by (with_reducible repeat (first | apply Kd.R_alloc | apply Kd.R_drewN | apply Kd.R_drew)); exact (Kd.R_mono (Kd.R_far (p := ⟨gb322, 2, none⟩) (Kd.R_far (p := ⟨gb322, 1, none⟩) (Kd.R_far (p := ⟨gb322, 0, none⟩) (Kd.R_types HO307.out BK322.out (by decide)) (fun _ hk => hk.2) (.string t317)) (fun _ hk => hk.2) (.slice Ao35 t318.length co35)) (fun _ hk => hk.2) (.int .i64 t321)) (fun _ h_ => h_.1))) (Kd.R_base ho0) hb); replace HO313 := am (Kd.R_elder' (by (with_reducible repeat (first | apply Kd.R_alloc | apply Kd.R_drewN | apply Kd.R_drew)); exact (Kd.R_mono (Kd.R_far (p := ⟨gb322, 2, none⟩) (Kd.R_far (p := ⟨gb322, 1, none⟩) (Kd.R_far (p := ⟨gb322, 0, none⟩) (Kd.R_types HO313.out BK322.out (by decide)) (fun _ hk => hk.2) (.string t317)) (fun _ hk => hk.2) (.slice Ao35 t318.length co35)) (fun _ hk => hk.2) (.int .i64 t321)) (fun _ h_ => h_.1))) (Kd.R_base ho0) hb); replace HO320 := am (Kd.R_elder' (by (with_reducible repeat (first | apply Kd.R_alloc | apply Kd.R_drewN | apply Kd.R_drew)); exact (Kd.R_mono (Kd.R_far (p := ⟨gb322, 2, none⟩) (Kd.R_far (p := ⟨gb322, 1, none⟩) (Kd.R_far (p := ⟨gb322, 0, none⟩) (Kd.R_types HO320.out BK322.out (by decide)) (fun _ hk => hk.2) (.string t317)) (fun _ hk => hk.2) (.slice Ao35 t318.length co35)) (fun _ hk => hk.2) (.int .i64 t321)) (fun _ h_ => h_.1))) (Kd.R_base ho0) hb); replace BK302 := am (blk_below (g := gb302) (o := .cells #[.string a0_0, .slice A0_1 l0_1.length c0_1, .int .i64 a0_2] 24 (0, 0)) i_ hb); replace BK316 := am (blk_below (g := gb316) (o := .cells #[.int .i64 t309, .string t310, .slice Ao28 t311.length co28, .int .i64 t314, .string t315] 50 (0, 0)) i_ hb); replace BK322 := am (blk_below (g := gb322) (o := .cells #[.string t317, .slice Ao35 t318.length co35, .int .i64 t321] 29 (0, 0)) (by (with_reducible repeat (first | refine blk_drewN ?_ _ | refine blk_drew ?_ | refine blk_alloc ?_ _)); refine blk_put (cs := #[.string t317, .slice Ao35 t318.length co35, .int .i64 0]) ?_ 2 _ rfl; (with_reducible repeat (first | refine blk_drewN ?_ _ | refine blk_drew ?_ | refine blk_alloc ?_ _)); refine blk_put (cs := #[.string t317, .slice none 0 0, .int .i64 0]) ?_ 1 _ rfl; (with_reducible repeat (first | refine blk_drewN ?_ _ | refine blk_drew ?_ | refine blk_alloc ?_ _)); refine blk_put (cs := #[.string (⟨#[]⟩ : ByteArray), .slice none 0 0, .int .i64 0]) ?_ 0 _ rfl; (with_reducible repeat (first | refine blk_drewN ?_ _ | refine blk_drew ?_ | refine blk_alloc ?_ _)); exact BK322.out) hb); replace HB := am (below_step (w := w) i_ hb); (try clear hb); (try clear hb2); (try clear hk); (try clear hi); (try clear ho0)) | ((with_reducible refine gate_dst (N := 6) rfl ?_); refine bX (N := 6) (cs := #[.int .i64 0, .string (⟨#[]⟩ : ByteArray), .slice none 0 0, .int .i64 0, .string (⟨#[]⟩ : ByteArray)]) (t := 50) ?_; intro gb330 hg w37 hbox hb; have BK330 := am (hbox); have GW330 := am ((by rw [hg]; exact (below_size (w := w) i_) : w.heap.size ≤ gb330)); have GE330 := am ((by rw [hg]; exact (below_size (w := w) i_) : w.heap.size ≤ gb330)); have NB302_330 := am ((by rw [hg]; exact Nat.ne_of_lt (blk_lt (g := gb302) (o := .cells #[.string a0_0, .slice A0_1 l0_1.length c0_1, .int .i64 a0_2] 24 (0, 0)) i_) : gb302 ≠ gb330)); have NB330_302 := am ((by rw [hg]; exact Nat.ne_of_gt (blk_lt (g := gb302) (o := .cells #[.string a0_0, .slice A0_1 l0_1.length c0_1, .int .i64 a0_2] 24 (0, 0)) i_) : gb330 ≠ gb302)); have NB316_330 := am ((by rw [hg]; exact Nat.ne_of_lt (blk_lt (g := gb316) (o := .cells #[.int .i64 t309, .string t310, .slice Ao28 t311.length co28, .int .i64 t314, .string t315] 50 (0, 0)) i_) : gb316 ≠ gb330)); have NB330_316 := am ((by rw [hg]; exact Nat.ne_of_gt (blk_lt (g := gb316) (o := .cells #[.int .i64 t309, .string t310, .slice Ao28 t311.length co28, .int .i64 t314, .string t315] 50 (0, 0)) i_) : gb330 ≠ gb316)); have NB322_330 := am ((by rw [hg]; exact Nat.ne_of_lt (blk_lt (g := gb322) (o := .cells #[.string t317, .slice Ao35 t318.length co35, .int .i64 t321] 29 (0, 0)) i_) : gb322 ≠ gb330)); have NB330_322 := am ((by rw [hg]; exact Nat.ne_of_gt (blk_lt (g := gb322) (o := .cells #[.string t317, .slice Ao35 t318.length co35, .int .i64 t321] 29 (0, 0)) i_) : gb330 ≠ gb322)); replace HO307 := am (rB HO307.out i_ hb); replace HO313 := am (rB HO313.out i_ hb); replace HO320 := am (rB HO320.out i_ hb); replace HO327 := am (rB HO327.out i_ hb); replace BK302 := am (blk_below (g := gb302) (o := .cells #[.string a0_0, .slice A0_1 l0_1.length c0_1, .int .i64 a0_2] 24 (0, 0)) i_ hb); replace BK316 := am (blk_below (g := gb316) (o := .cells #[.int .i64 t309, .string t310, .slice Ao28 t311.length co28, .int .i64 t314, .string t315] 50 (0, 0)) i_ hb); replace BK322 := am (blk_below (g := gb322) (o := .cells #[.string t317, .slice Ao35 t318.length co35, .int .i64 t321] 29 (0, 0)) i_ hb); replace HB := am (below_step (w := w) i_ hb); clear hb hbox hg; have hnb38 := NB330_302.out; have hnc38 := NB302_330.out; have hnb39 := NB330_316.out; have hnc39 := NB316_330.out; have hnb40 := NB330_322.out; have hnc40 := NB322_330.out; have hcz41 := bc5 BK330.out; obtain ⟨Ao42, co42, eo42⟩ := Kd.R_slice HO327.out; subst eo42; have hcz43 := bc5 BK316.out) | ((with_reducible refine gate_callee (f := 31) rfl ?_); refine gL (some 25) Try.func31 #[.agg #[.int .i64 t323, .string t324, .slice Ao42 t325.length co42, .int .i64 t328, .string t329], .agg #[.int .i64 t309, .string t310, .slice Ao28 t311.length co28, .int .i64 t314, .string t315]] rfl ?_; (with_reducible refine (laws_eqHistoryOut.calls k t323 t324 _ _ t325 t328 t329 t309 t310 _ _ t311 t314 t315 true _ ?side1 ?side2 ?side3 ?side4 A11.out).mono ?_); (case side1 => refine (Kd.R_reads' (e := 68) (base := w.heap.size) (ok := fun k_ => (((True ∧ some k_ ≠ (.slice Ao23 t305.length co23 : Value).ownBlock) ∧ some k_ ≠ (.slice Ao28 t311.length co28 : Value).ownBlock) ∧ some k_ ≠ (.slice Ao35 t318.length co35 : Value).ownBlock)) (n := t325.length) (c := co42) ?_).2.2; exact (by (with_reducible repeat (first | apply Kd.R_alloc | apply Kd.R_drewN | apply Kd.R_drew)); exact (Kd.R_mono (Kd.R_far (p := ⟨gb330, 4, none⟩) (Kd.R_far (p := ⟨gb330, 3, none⟩) (Kd.R_far (p := ⟨gb330, 2, none⟩) (Kd.R_far (p := ⟨gb330, 1, none⟩) (Kd.R_far (p := ⟨gb330, 0, none⟩) (Kd.R_types HO327.out BK330.out (by decide)) (fun _ hk => hk.2) (.int .i64 t323)) (fun _ hk => hk.2) (.string t324)) (fun _ hk => hk.2) (.slice Ao42 t325.length co42)) (fun _ hk => hk.2) (.int .i64 t328)) (fun _ hk => hk.2) (.string t329)) (fun _ h_ => h_.1)))); (case side2 => exact (Kd.R_reads' HO327.out).2.1); (case side3 => refine (Kd.R_reads' (e := 68) (base := w.heap.size) (ok := fun k_ => (((True ∧ some k_ ≠ (.slice Ao23 t305.length co23 : Value).ownBlock) ∧ some k_ ≠ (.slice Ao35 t318.length co35 : Value).ownBlock) ∧ some k_ ≠ (.slice Ao42 t325.length co42 : Value).ownBlock)) (n := t311.length) (c := co28) ?_).2.2; exact (by (with_reducible repeat (first | apply Kd.R_alloc | apply Kd.R_drewN | apply Kd.R_drew)); exact (Kd.R_mono (Kd.R_far (p := ⟨gb330, 4, none⟩) (Kd.R_far (p := ⟨gb330, 3, none⟩) (Kd.R_far (p := ⟨gb330, 2, none⟩) (Kd.R_far (p := ⟨gb330, 1, none⟩) (Kd.R_far (p := ⟨gb330, 0, none⟩) (Kd.R_types HO313.out BK330.out (by decide)) (fun _ hk => hk.2) (.int .i64 t323)) (fun _ hk => hk.2) (.string t324)) (fun _ hk => hk.2) (.slice Ao42 t325.length co42)) (fun _ hk => hk.2) (.int .i64 t328)) (fun _ hk => hk.2) (.string t329)) (fun _ h_ => h_.1)))); (case side4 => exact (Kd.R_reads' HO313.out).2.1); rintro e w44 ⟨rfl, hb⟩; refine ⟨_, rfl, ?_⟩; replace HO307 := am (Kd.R_below (by (with_reducible repeat (first | apply Kd.R_alloc | apply Kd.R_drewN | apply Kd.R_drew)); exact (Kd.R_mono (Kd.R_far (p := ⟨gb330, 4, none⟩) (Kd.R_far (p := ⟨gb330, 3, none⟩) (Kd.R_far (p := ⟨gb330, 2, none⟩) (Kd.R_far (p := ⟨gb330, 1, none⟩) (Kd.R_far (p := ⟨gb330, 0, none⟩) (Kd.R_types HO307.out BK330.out (by decide)) (fun _ hk => hk.2) (.int .i64 t323)) (fun _ hk => hk.2) (.string t324)) (fun _ hk => hk.2) (.slice Ao42 t325.length co42)) (fun _ hk => hk.2) (.int .i64 t328)) (fun _ hk => hk.2) (.string t329)) (fun _ h_ => h_.1))) hb); replace HO313 := am (Kd.R_below (by (with_reducible repeat (first | apply Kd.R_alloc | apply Kd.R_drewN | apply Kd.R_drew)); exact (Kd.R_mono (Kd.R_far (p := ⟨gb330, 4, none⟩) (Kd.R_far (p := ⟨gb330, 3, none⟩) (Kd.R_far (p := ⟨gb330, 2, none⟩) (Kd.R_far (p := ⟨gb330, 1, none⟩) (Kd.R_far (p := ⟨gb330, 0, none⟩) (Kd.R_types HO313.out BK330.out (by decide)) (fun _ hk => hk.2) (.int .i64 t323)) (fun _ hk => hk.2) (.string t324)) (fun _ hk => hk.2) (.slice Ao42 t325.length co42)) (fun _ hk => hk.2) (.int .i64 t328)) (fun _ hk => hk.2) (.string t329)) (fun _ h_ => h_.1))) hb); replace HO320 := am (Kd.R_below (by (with_reducible repeat (first | apply Kd.R_alloc | apply Kd.R_drewN | apply Kd.R_drew)); exact (Kd.R_mono (Kd.R_far (p := ⟨gb330, 4, none⟩) (Kd.R_far (p := ⟨gb330, 3, none⟩) (Kd.R_far (p := ⟨gb330, 2, none⟩) (Kd.R_far (p := ⟨gb330, 1, none⟩) (Kd.R_far (p := ⟨gb330, 0, none⟩) (Kd.R_types HO320.out BK330.out (by decide)) (fun _ hk => hk.2) (.int .i64 t323)) (fun _ hk => hk.2) (.string t324)) (fun _ hk => hk.2) (.slice Ao42 t325.length co42)) (fun _ hk => hk.2) (.int .i64 t328)) (fun _ hk => hk.2) (.string t329)) (fun _ h_ => h_.1))) hb); replace HO327 := am (Kd.R_below (by (with_reducible repeat (first | apply Kd.R_alloc | apply Kd.R_drewN | apply Kd.R_drew)); exact (Kd.R_mono (Kd.R_far (p := ⟨gb330, 4, none⟩) (Kd.R_far (p := ⟨gb330, 3, none⟩) (Kd.R_far (p := ⟨gb330, 2, none⟩) (Kd.R_far (p := ⟨gb330, 1, none⟩) (Kd.R_far (p := ⟨gb330, 0, none⟩) (Kd.R_types HO327.out BK330.out (by decide)) (fun _ hk => hk.2) (.int .i64 t323)) (fun _ hk => hk.2) (.string t324)) (fun _ hk => hk.2) (.slice Ao42 t325.length co42)) (fun _ hk => hk.2) (.int .i64 t328)) (fun _ hk => hk.2) (.string t329)) (fun _ h_ => h_.1))) hb); replace BK302 := am (blk_below (g := gb302) (o := .cells #[.string a0_0, .slice A0_1 l0_1.length c0_1, .int .i64 a0_2] 24 (0, 0)) i_ hb); replace BK316 := am (blk_below (g := gb316) (o := .cells #[.int .i64 t309, .string t310, .slice Ao28 t311.length co28, .int .i64 t314, .string t315] 50 (0, 0)) i_ hb); replace BK322 := am (blk_below (g := gb322) (o := .cells #[.string t317, .slice Ao35 t318.length co35, .int .i64 t321] 29 (0, 0)) i_ hb); replace BK330 := am (blk_below (g := gb330) (o := .cells #[.int .i64 t323, .string t324, .slice Ao42 t325.length co42, .int .i64 t328, .string t329] 50 (0, 0)) (by (with_reducible repeat (first | refine blk_drewN ?_ _ | refine blk_drew ?_ | refine blk_alloc ?_ _)); refine blk_put (cs := #[.int .i64 t323, .string t324, .slice Ao42 t325.length co42, .int .i64 t328, .string (⟨#[]⟩ : ByteArray)]) ?_ 4 _ rfl; (with_reducible repeat (first | refine blk_drewN ?_ _ | refine blk_drew ?_ | refine blk_alloc ?_ _)); refine blk_put (cs := #[.int .i64 t323, .string t324, .slice Ao42 t325.length co42, .int .i64 0, .string (⟨#[]⟩ : ByteArray)]) ?_ 3 _ rfl; (with_reducible repeat (first | refine blk_drewN ?_ _ | refine blk_drew ?_ | refine blk_alloc ?_ _)); refine blk_put (cs := #[.int .i64 t323, .string t324, .slice none 0 0, .int .i64 0, .string (⟨#[]⟩ : ByteArray)]) ?_ 2 _ rfl; (with_reducible repeat (first | refine blk_drewN ?_ _ | refine blk_drew ?_ | refine blk_alloc ?_ _)); refine blk_put (cs := #[.int .i64 t323, .string (⟨#[]⟩ : ByteArray), .slice none 0 0, .int .i64 0, .string (⟨#[]⟩ : ByteArray)]) ?_ 1 _ rfl; (with_reducible repeat (first | refine blk_drewN ?_ _ | refine blk_drew ?_ | refine blk_alloc ?_ _)); refine blk_put (cs := #[.int .i64 0, .string (⟨#[]⟩ : ByteArray), .slice none 0 0, .int .i64 0, .string (⟨#[]⟩ : ByteArray)]) ?_ 0 _ rfl; (with_reducible repeat (first | refine blk_drewN ?_ _ | refine blk_drew ?_ | refine blk_alloc ?_ _)); exact BK330.out) hb); replace HB := am (below_step (w := w) i_ hb); (try clear hb); (try clear hb2); (try clear hk); ((try clear hi))))
        have n0_ := am (Kd.R_drew HO307.out)
        have n1_ := am (Kd.R_drew HO313.out)
        have n2_ := am (Kd.R_drew HO320.out)
        have n3_ := am (Kd.R_drew HO327.out)
        have n4_ := am (blk_drew BK302.out)
        have n5_ := am (blk_drew BK316.out)
        have n6_ := am (blk_drew BK322.out)
        have n7_ := am (blk_drew BK330.out)
        have n8_ := am (below_drew1 HB.out)
        clear HO307
        clear HO313
        clear HO320
        clear HO327
        clear BK302
        clear BK316
        clear BK322
        clear BK330
        clear HB
        have HO307 := n0_
        have HO313 := n1_
        have HO320 := n2_
        have HO327 := n3_
        have BK302 := n4_
        have BK316 := n5_
        have BK322 := n6_
        have BK330 := n7_
        have HB := n8_
        clear n0_ n1_ n2_ n3_ n4_ n5_ n6_ n7_ n8_
        refine start_ (n := 5) (S := fun w' => w'.cell? ⟨gb322, 0, none⟩ = some (.string t317) ∧ w'.cell? ⟨gb322, 1, none⟩ = some (.slice Ao35 t318.length co35) ∧ w'.cell? ⟨gb322, 2, none⟩ = some (.int .i64 t321) ∧ w'.cell? ⟨gb302, 0, none⟩ = some (.string a0_0) ∧ w'.cell? ⟨gb302, 1, none⟩ = some (.slice A0_1 l0_1.length c0_1) ∧ w'.cell? ⟨gb302, 2, none⟩ = some (.int .i64 a0_2)) (ds := []) #[false, false, false, false, false] (by kernel_rfl) rfl rfl ⟨(blk_cell BK322.out 0).trans rfl, (blk_cell BK322.out 1).trans rfl, (blk_cell BK322.out 2).trans rfl, (blk_cell BK302.out 0).trans rfl, (blk_cell BK302.out 1).trans rfl, (blk_cell BK302.out 2).trans rfl⟩ (fun hHeld => ?_)
        generalize w44.drew = w45 at HO307 HO313 HO320 HO327 BK302 BK316 BK322 BK330 HB hHeld ⊢
        refine take_ (i := 0) (N := some 27) (v := ?_) (a' := ?_) #[true, false, false, false, false] rfl rfl (by kernel_rfl) (fun _ _ _ h => h) (Or.inl ⟨by rfl, ?_⟩) hHeld ?_ ?_
        rotate_left
        · rintro w' ⟨s0, s1, s2, s3, s4, s5⟩
          go_simp
          with_reducible rfl
        rotate_left
        · simp only [Act.put, List.setIfInBounds_toArray, List.set_cons_zero, List.set_cons_succ, i64_w, i32_w]
          rfl
        refine take_ (i := 1) (N := some 28) (v := ?_) (a' := ?_) #[true, true, false, false, false] rfl rfl (by kernel_rfl) (fun _ _ _ h => h) (Or.inl ⟨by rfl, ?_⟩) hHeld ?_ ?_
        rotate_left
        · rintro w' ⟨s0, s1, s2, s3, s4, s5⟩
          go_simp
          with_reducible rfl
        rotate_left
        · simp only [Act.put, List.setIfInBounds_toArray, List.set_cons_zero, List.set_cons_succ, i64_w, i32_w]
          rfl
        refine one_ (i := 2) (N := some 29) #[true, true, true, false, false] rfl rfl (by kernel_rfl) (by decide) (fun K hK => ?_)
        refine goes_ Try.func14 (by kernel_rfl) rfl #[.agg #[.string a0_0, .slice A0_1 l0_1.length c0_1, .int .i64 a0_2]] (by rfl) rfl rfl (by (try simp only [List.map_toArray, List.map_cons, List.map_nil]); first | done | rfl | (simp only [List.length_drop, List.length_take]; rfl)) ?_
        with_reducible refine (laws_toHistory.calls k a0_0 _ _ l0_1 a0_2 t332 t333 t336 _ ?side1 ?side2 A13.out).mono ?_
        (case side1 => exact Kd.C_below HR0_1.out i_)
        (case side2 => exact HC0_1.out)
        rintro e w46 ⟨v334, rfl, ho0, hb⟩
        refine ⟨_, rfl, ?_⟩
        have n0_ := am (Kd.R_elder' (by (with_reducible repeat (first | apply Kd.R_alloc | apply Kd.R_drewN | apply Kd.R_drew)); exact HO307.out) (Kd.R_base ho0) hb)
        have n1_ := am (Kd.R_elder' (by (with_reducible repeat (first | apply Kd.R_alloc | apply Kd.R_drewN | apply Kd.R_drew)); exact HO313.out) (Kd.R_base ho0) hb)
        have n2_ := am (Kd.R_elder' (by (with_reducible repeat (first | apply Kd.R_alloc | apply Kd.R_drewN | apply Kd.R_drew)); exact HO320.out) (Kd.R_base ho0) hb)
        have n3_ := am (Kd.R_elder' (by (with_reducible repeat (first | apply Kd.R_alloc | apply Kd.R_drewN | apply Kd.R_drew)); exact HO327.out) (Kd.R_base ho0) hb)
        have n4_ := am (Kd.R_lower (Kd.R_new' (Kd.R_new' (Kd.R_new' (Kd.R_new' ho0 (Kd.R_lt (by (with_reducible repeat (first | apply Kd.R_alloc | apply Kd.R_drewN | apply Kd.R_drew)); exact HO307.out))) (Kd.R_lt (by (with_reducible repeat (first | apply Kd.R_alloc | apply Kd.R_drewN | apply Kd.R_drew)); exact HO313.out))) (Kd.R_lt (by (with_reducible repeat (first | apply Kd.R_alloc | apply Kd.R_drewN | apply Kd.R_drew)); exact HO320.out))) (Kd.R_lt (by (with_reducible repeat (first | apply Kd.R_alloc | apply Kd.R_drewN | apply Kd.R_drew)); exact HO327.out))) (below_size (w := w) i_))
        have n5_ := am (blk_below (g := gb302) (o := .cells #[.string a0_0, .slice A0_1 l0_1.length c0_1, .int .i64 a0_2] 24 (0, 0)) i_ hb)
        have n6_ := am (blk_below (g := gb316) (o := .cells #[.int .i64 t309, .string t310, .slice Ao28 t311.length co28, .int .i64 t314, .string t315] 50 (0, 0)) i_ hb)
        have n7_ := am (blk_below (g := gb322) (o := .cells #[.string t317, .slice Ao35 t318.length co35, .int .i64 t321] 29 (0, 0)) i_ hb)
        have n8_ := am (blk_below (g := gb330) (o := .cells #[.int .i64 t323, .string t324, .slice Ao42 t325.length co42, .int .i64 t328, .string t329] 50 (0, 0)) i_ hb)
        have n9_ := am (below_step (w := w) i_ hb)
        clear HO307
        clear HO313
        clear HO320
        clear HO327
        clear BK302
        clear BK316
        clear BK322
        clear BK330
        clear HB
        have HO307 := n0_
        have HO313 := n1_
        have HO320 := n2_
        have HO327 := n3_
        have HO335 := n4_
        have BK302 := n5_
        have BK316 := n6_
        have BK322 := n7_
        have BK330 := n8_
        have HB := n9_
        clear n0_ n1_ n2_ n3_ n4_ n5_ n6_ n7_ n8_ n9_
        ((try clear hb))
        ((try clear hb2))
        ((try clear hk))
        ((try clear hi))
        ((try clear ho0))
        obtain ⟨Ao47, co47, eo47⟩ := Kd.R_slice HO335.out
        (first | subst eo47 | (injection eo47 with f1_ f2_ f3_; have f4_ := f1_.symm; have f5_ := f3_.symm; clear f1_ f2_ f3_; subst f4_; subst f5_))
        refine hK.out _ _ ⟨(blk_cell BK322.out 0).trans rfl, (blk_cell BK322.out 1).trans rfl, (blk_cell BK322.out 2).trans rfl, (blk_cell BK302.out 0).trans rfl, (blk_cell BK302.out 1).trans rfl, (blk_cell BK302.out 2).trans rfl⟩ (fun hHeld => ?_)
        clear hK K
        refine norm_ (a' := ?_) ?_ ?_
        rotate_left
        · show Act.put _ (some 29) _ = _
          simp only [Act.put, List.setIfInBounds_toArray, List.set_cons_zero, List.set_cons_succ, i64_w, i32_w]
          rfl
        refine one_ (i := 3) (N := some 30) #[true, true, true, true, false] rfl rfl (by kernel_rfl) (by decide) (fun K hK => ?_)
        refine goes_ Try.func16 (by kernel_rfl) rfl #[.agg #[.string t317, .slice Ao35 t318.length co35, .int .i64 t321], .agg #[.string t332, .slice Ao47 t333.length co47, .int .i64 t336]] (by rfl) rfl rfl (by (try simp only [List.map_toArray, List.map_cons, List.map_nil]); first | done | rfl | (simp only [List.length_drop, List.length_take]; rfl)) ?_
        with_reducible refine (laws_eqHistory.calls k t317 _ _ t318 t321 t332 _ _ t333 t336 true _ ?side1 ?side2 ?side3 ?side4 A14.out).mono ?_
        (case side1 => repeat (first | exact (Kd.R_reads' HO320.out).2.2 | (with_reducible refine Kd.C_alloc ?_ _) | (with_reducible refine Kd.C_drewN ?_ _) | (with_reducible refine Kd.C_drew ?_)))
        (case side2 => exact (Kd.R_reads' HO320.out).2.1)
        (case side3 => repeat (first | exact (Kd.R_reads' HO335.out).2.2 | (with_reducible refine Kd.C_alloc ?_ _) | (with_reducible refine Kd.C_drewN ?_ _) | (with_reducible refine Kd.C_drew ?_)))
        (case side4 => exact (Kd.R_reads' HO335.out).2.1)
        rintro e w48 ⟨rfl, hb⟩
        refine ⟨_, rfl, ?_⟩
        have n0_ := am (rB HO307.out i_ hb)
        have n1_ := am (rB HO313.out i_ hb)
        have n2_ := am (rB HO320.out i_ hb)
        have n3_ := am (rB HO327.out i_ hb)
        have n4_ := am (rB HO335.out i_ hb)
        have n5_ := am (blk_below (g := gb302) (o := .cells #[.string a0_0, .slice A0_1 l0_1.length c0_1, .int .i64 a0_2] 24 (0, 0)) i_ hb)
        have n6_ := am (blk_below (g := gb316) (o := .cells #[.int .i64 t309, .string t310, .slice Ao28 t311.length co28, .int .i64 t314, .string t315] 50 (0, 0)) i_ hb)
        have n7_ := am (blk_below (g := gb322) (o := .cells #[.string t317, .slice Ao35 t318.length co35, .int .i64 t321] 29 (0, 0)) i_ hb)
        have n8_ := am (blk_below (g := gb330) (o := .cells #[.int .i64 t323, .string t324, .slice Ao42 t325.length co42, .int .i64 t328, .string t329] 50 (0, 0)) i_ hb)
        have n9_ := am (below_step (w := w) i_ hb)
        clear HO307
        clear HO313
        clear HO320
        clear HO327
        clear HO335
        clear BK302
        clear BK316
        clear BK322
        clear BK330
        clear HB
        have HO307 := n0_
        have HO313 := n1_
        have HO320 := n2_
        have HO327 := n3_
        have HO335 := n4_
        have BK302 := n5_
        have BK316 := n6_
        have BK322 := n7_
        have BK330 := n8_
        have HB := n9_
        clear n0_ n1_ n2_ n3_ n4_ n5_ n6_ n7_ n8_ n9_
        ((try clear hb))
        ((try clear hb2))
        ((try clear hk))
        ((try clear hi))
        refine hK.out _ _ ⟨(blk_cell BK322.out 0).trans rfl, (blk_cell BK322.out 1).trans rfl, (blk_cell BK322.out 2).trans rfl, (blk_cell BK302.out 0).trans rfl, (blk_cell BK302.out 1).trans rfl, (blk_cell BK302.out 2).trans rfl⟩ (fun hHeld => ?_)
        clear hK K
        refine norm_ (a' := ?_) ?_ ?_
        rotate_left
        · show Act.put _ (some 30) _ = _
          simp only [Act.put, List.setIfInBounds_toArray, List.set_cons_zero, List.set_cons_succ, i64_w, i32_w]
          rfl
        refine pure_ (i := 4) (N := some 31) (v := ?_) (a' := ?_) #[true, true, true, true, true] rfl rfl (by kernel_rfl) (fun _ _ _ h => h) (Or.inl ⟨by rfl, ?_⟩) ?_ ?_
        rotate_left
        · intro w'
          go_simp
          with_reducible rfl
        rotate_left
        · simp only [Act.put, List.setIfInBounds_toArray, List.set_cons_zero, List.set_cons_succ, i64_w, i32_w]
          rfl
        refine done_ (by kernel_rfl) ?_
        have hcz49 := bc3 BK322.out
        go_upto_region 14 with (first | ((with_reducible refine gate_callee (f := 32) rfl ?_); refine gL (some 34) Try.func32 #[.agg #[.string t317, .slice Ao35 t318.length co35, .int .i64 t321], .int .i64 1] rfl ?_; (with_reducible refine (laws_markHistory.calls k t317 (fun k_ => some k_ = (.slice Ao35 t318.length co35 : Value).ownBlock) (.slice Ao35 t318.length co35) t318 t321 1 t338 t339 w _ ?side1 ?side2 A16.out).mono ?_); (case side1 => exact i_); (case side2 => exact Kd.R_tight rfl HO320.out); rintro e w50 ⟨rfl, hy0, hb, hkp⟩; refine ⟨_, rfl, ?_⟩; replace BK302 := am (blk_kept (kB BK302.out i_) hkp (fun hs_ => (fun e_ => (Kd.R_ne HO320.out BK302.out (by decide)) e_) hs_)); replace HO307 := am (Kd.R_mono (ok' := fun k_ => some k_ ≠ (.slice Ao28 t311.length co28 : Value).ownBlock ∧ some k_ ≠ (.slice Ao35 t318.length co35 : Value).ownBlock ∧ some k_ ≠ (.slice Ao42 t325.length co42 : Value).ownBlock ∧ some k_ ≠ (.slice Ao47 t333.length co47 : Value).ownBlock) (Kd.R_keptB (HO307.out) hkp (fun k_ hk_ hs_ => (hk_.1.1.2) hs_)) (fun k_ hk_ => ⟨hk_.1.1.1.1.2, hk_.1.1.1.2, hk_.1.1.2, hk_.1.2⟩)); replace HO313 := am (Kd.R_mono (ok' := fun k_ => some k_ ≠ (.slice Ao23 t305.length co23 : Value).ownBlock ∧ some k_ ≠ (.slice Ao35 t318.length co35 : Value).ownBlock ∧ some k_ ≠ (.slice Ao42 t325.length co42 : Value).ownBlock ∧ some k_ ≠ (.slice Ao47 t333.length co47 : Value).ownBlock) (Kd.R_keptB (HO313.out) hkp (fun k_ hk_ hs_ => (hk_.1.1.2) hs_)) (fun k_ hk_ => ⟨hk_.1.1.1.1.2, hk_.1.1.1.2, hk_.1.1.2, hk_.1.2⟩)); replace BK316 := am (blk_kept (kB BK316.out i_) hkp (fun hs_ => (fun e_ => (Kd.R_ne HO320.out BK316.out (by decide)) e_) hs_)); replace BK322 := am (blk_kept (kB BK322.out i_) hkp (fun hs_ => (fun e_ => (Kd.R_ne HO320.out BK322.out (by decide)) e_) hs_)); replace HO327 := am (Kd.R_mono (ok' := fun k_ => some k_ ≠ (.slice Ao23 t305.length co23 : Value).ownBlock ∧ some k_ ≠ (.slice Ao28 t311.length co28 : Value).ownBlock ∧ some k_ ≠ (.slice Ao35 t318.length co35 : Value).ownBlock ∧ some k_ ≠ (.slice Ao47 t333.length co47 : Value).ownBlock) (Kd.R_keptB (HO327.out) hkp (fun k_ hk_ hs_ => (hk_.1.2) hs_)) (fun k_ hk_ => ⟨hk_.1.1.1.1.2, hk_.1.1.1.2, hk_.1.1.2, hk_.1.2⟩)); replace BK330 := am (blk_kept (kB BK330.out i_) hkp (fun hs_ => (fun e_ => (Kd.R_ne HO320.out BK330.out (by decide)) e_) hs_)); replace HO320 := am (Kd.R_reok rfl hy0 (fun k_ e_ => HO320.out.1 k_ e_)); replace HO335 := am (Kd.R_mono (ok' := fun k_ => some k_ ≠ (.slice Ao23 t305.length co23 : Value).ownBlock ∧ some k_ ≠ (.slice Ao28 t311.length co28 : Value).ownBlock ∧ some k_ ≠ (.slice Ao35 t318.length co35 : Value).ownBlock ∧ some k_ ≠ (.slice Ao42 t325.length co42 : Value).ownBlock) (Kd.R_keptB (HO335.out) hkp (fun k_ hk_ hs_ => (hk_.1.2) hs_)) (fun k_ hk_ => ⟨hk_.1.1.1.1.2, hk_.1.1.1.2, hk_.1.1.2, hk_.1.2⟩)); replace HB := am (hb); (try clear hb); (try clear hkp); ((try clear hy0))))
        (try simp only [Act.put, List.setIfInBounds_toArray, List.set_cons_zero, List.set_cons_succ])
        go_cut [42] (fun v42 wc => ∃ (kq : Nat) (x42_16 : Bool), v42 = .bool x42_16 ∧ Fc (laws_FnExactUndo.j0 kq x42_16 a0_0 l0_1 a0_2 t309 t310 t311 t314 t315 t323 t324 t325 t328 t329 = some r) ∧ Fc (kq ≤ k) ∧ Fc (Kd.R k68 68 wc w.heap.size (fun k_ => some k_ ≠ ((.slice Ao35 t318.length co35) : Value).ownBlock ∧ some k_ ≠ ((.slice Ao42 t325.length co42) : Value).ownBlock) (.slice Ao28 t311.length co28) t311) ∧ Fc (Kd.R k68 68 wc w.heap.size (fun k_ => some k_ ≠ ((.slice Ao28 t311.length co28) : Value).ownBlock ∧ some k_ ≠ ((.slice Ao42 t325.length co42) : Value).ownBlock) (.slice Ao35 t318.length co35) t339) ∧ Fc (Kd.R k68 68 wc w.heap.size (fun k_ => some k_ ≠ ((.slice Ao28 t311.length co28) : Value).ownBlock ∧ some k_ ≠ ((.slice Ao35 t318.length co35) : Value).ownBlock) (.slice Ao42 t325.length co42) t325) ∧ Fc (wc.heap[gb302]? = some (.cells #[.string a0_0, (.slice A0_1 l0_1.length c0_1), .int .i64 a0_2] 24 (0, 0))) ∧ Fc (wc.heap[gb316]? = some (.cells #[.int .i64 t309, .string t310, (.slice Ao28 t311.length co28), .int .i64 t314, .string t315] 50 (0, 0))) ∧ Fc (wc.heap[gb322]? = some (.cells #[.string t317, (.slice Ao35 t318.length co35), .int .i64 t321] 29 (0, 0))) ∧ Fc (wc.heap[gb330]? = some (.cells #[.int .i64 t323, .string t324, (.slice Ao42 t325.length co42), .int .i64 t328, .string t329] 50 (0, 0))) ∧ Fc (Below w.heap.size w wc))
        case first =>
          have H := HC17.out
          clear HC17
          by_cases c51 : t338 < 0
          · rw [if_pos c51] at H
            have c51b0 : decide (t338 < 0) = true := decide_eq_true c51
            clear c51
            (first | rw [c51b0] | (simp only [i64_w, i32_w]; rw [c51b0]) | skip)
            have H' := am H
            clear H
            go_wp2
            go_meet
            case rel => exact ⟨_, (true), (by first | rfl | (simp; done) | (simp [*]; done)), H', ⟨by first | omega | exact Nat.le_refl _⟩, ⟨by (with_reducible repeat (first | apply Kd.R_alloc | apply Kd.R_drewN | apply Kd.R_drew)); exact Kd.R_mono HO313.out (fun _ hk => ⟨hk.2.1, hk.2.2.1⟩)⟩, ⟨by (with_reducible repeat (first | apply Kd.R_alloc | apply Kd.R_drewN | apply Kd.R_drew)); exact Kd.R_mono HO320.out (fun _ hk => ⟨hk.1.1.2, hk.1.2⟩)⟩, ⟨by (with_reducible repeat (first | apply Kd.R_alloc | apply Kd.R_drewN | apply Kd.R_drew)); exact Kd.R_mono HO327.out (fun _ hk => ⟨hk.2.1, hk.2.2.1⟩)⟩, ⟨i_⟩, ⟨i_⟩, ⟨i_⟩, ⟨i_⟩, ⟨i_⟩⟩
          · rw [if_neg c51] at H
            have c51b0 : decide (t338 < 0) = false := decide_eq_false c51
            clear c51
            (first | rw [c51b0] | (simp only [i64_w, i32_w]; rw [c51b0]) | skip)
            replace H := Option.bind_eq_some_iff.mp H
            obtain ⟨t340, A520, H⟩ := H
            replace H : (laws_FnExactUndo.j0 k (!t340) a0_0 l0_1 a0_2 t309 t310 t311 t314 t315 t323 t324 t325 t328 t329) = some r := H
            have A52 := am A520
            clear A520
            have H' := am H
            clear H
            have hnb53 := NB330_302.out
            have hnc53 := NB302_330.out
            have hnb54 := NB330_316.out
            have hnc54 := NB316_330.out
            have hnb55 := NB330_322.out
            have hnc55 := NB322_330.out
            have hcz56 := bc5 BK330.out
            have hnb57 := NB316_302.out
            have hnc57 := NB302_316.out
            have hnb58 := NB316_322.out
            have hnc58 := NB322_316.out
            have hcz59 := bc5 BK316.out
            go_wp2_with (first | (go_at_call 31; (with_reducible refine (laws_eqHistoryOut.calls k t323 t324 _ _ t325 t328 t329 t309 t310 _ _ t311 t314 t315 t340 _ ?side1 ?side2 ?side3 ?side4 A52.out).mono ?_); (case side1 => repeat (first | exact (Kd.R_reads' HO327.out).2.2 | (with_reducible refine Kd.C_alloc ?_ _) | (with_reducible refine Kd.C_drewN ?_ _) | (with_reducible refine Kd.C_drew ?_))); (case side2 => exact (Kd.R_reads' HO327.out).2.1); (case side3 => repeat (first | exact (Kd.R_reads' HO313.out).2.2 | (with_reducible refine Kd.C_alloc ?_ _) | (with_reducible refine Kd.C_drewN ?_ _) | (with_reducible refine Kd.C_drew ?_))); (case side4 => exact (Kd.R_reads' HO313.out).2.1); rintro e w60 ⟨rfl, hb⟩; replace HO307 := am (rB HO307.out i_ hb); replace HO313 := am (rB HO313.out i_ hb); replace HO320 := am (rB HO320.out i_ hb); replace HO327 := am (rB HO327.out i_ hb); replace HO335 := am (rB HO335.out i_ hb); replace BK302 := am (blk_below (g := gb302) (o := .cells #[.string a0_0, .slice A0_1 l0_1.length c0_1, .int .i64 a0_2] 24 (0, 0)) i_ hb); replace BK316 := am (blk_below (g := gb316) (o := .cells #[.int .i64 t309, .string t310, .slice Ao28 t311.length co28, .int .i64 t314, .string t315] 50 (0, 0)) i_ hb); replace BK322 := am (blk_below (g := gb322) (o := .cells #[.string t317, .slice Ao35 t318.length co35, .int .i64 t321] 29 (0, 0)) i_ hb); replace BK330 := am (blk_below (g := gb330) (o := .cells #[.int .i64 t323, .string t324, .slice Ao42 t325.length co42, .int .i64 t328, .string t329] 50 (0, 0)) i_ hb); replace HB := am (below_step (w := w) i_ hb); (try clear hb); (try clear hb2); (try clear hk); ((try clear hi))))
            go_meet
            case rel => exact ⟨_, (!t340), (by first | rfl | (simp; done) | (simp [*]; done)), H', ⟨by first | omega | exact Nat.le_refl _⟩, ⟨by (with_reducible repeat (first | apply Kd.R_alloc | apply Kd.R_drewN | apply Kd.R_drew)); exact Kd.R_mono HO313.out (fun _ hk => ⟨hk.2.1, hk.2.2.1⟩)⟩, ⟨by (with_reducible repeat (first | apply Kd.R_alloc | apply Kd.R_drewN | apply Kd.R_drew)); exact Kd.R_mono HO320.out (fun _ hk => ⟨hk.1.1.2, hk.1.2⟩)⟩, ⟨by (with_reducible repeat (first | apply Kd.R_alloc | apply Kd.R_drewN | apply Kd.R_drew)); exact Kd.R_mono HO327.out (fun _ hk => ⟨hk.2.1, hk.2.2.1⟩)⟩, ⟨i_⟩, ⟨i_⟩, ⟨i_⟩, ⟨i_⟩, ⟨i_⟩⟩
        case rest =>
          clear HC17
          (try clear c1); (try clear c2); (try clear p2); (try clear c3); (try clear c3b0); (try clear c4); (try clear c5); (try clear c7); (try clear c12); (try clear c14); (try clear c15); (try clear c16); (try clear c26); (try clear c29); (try clear c30); (try clear c31); (try clear c32); (try clear c33); (try clear c38); (try clear c39); (try clear c40); (try clear c51); (try clear c51b0); (try clear c53); (try clear c54); (try clear c55); (try clear c57); (try clear c58); (try clear hcz19); (try clear hcz21); (try clear hcz27); (try clear hcz29); (try clear hcz34); (try clear hcz41); (try clear hcz43); (try clear hcz49); (try clear hcz56); (try clear hcz59); (try clear hcz5)
          obtain ⟨kq, x42_16, rfl, HA, HJ16, HO_317002, HO_323001, HO_331002, BK302, BK316, BK322, BK330, HB⟩ := hcut
          have hl323001_16 := (Kd.R_reads' HO_323001.out).1
          rw [hl323001_16] at HO_323001
          (try simp only [hl323001_16])
          (try simp only [hl323001_16] at BK302)
          (try simp only [hl323001_16] at BK316)
          (try simp only [hl323001_16] at BK322)
          (try simp only [hl323001_16] at BK330)
          (try simp only [hl323001_16] at HO_317002)
          (try simp only [hl323001_16] at HO_331002)
          cases kq with
          | zero => exact absurd HA.out (by simp [laws_FnExactUndo.j0])
          | succ kj16 =>
            have H := HA.out
            clear HA
            simp only [laws_FnExactUndo.j0] at H
            by_cases c61 : x42_16 = true
            · subst c61
              have H1 : (none) = some r := by rw [if_pos rfl] at H; exact H
              clear H
              have H := H1
              clear H1
              exact absurd H (by simp)
            · replace c61 := Bool.eq_false_iff.mpr c61
              subst c61
              have H1 : ((laws_markHistoryOut.f kj16 t323 t324 t325 t328 t329 1).bind fun bt341 => ((laws_heldHistoryOut.f kj16 t323 t324 bt341.2 t328 t329 1).bind fun t343 => (if t343 < 0 then (none) else (if t343 = bt341.1 then ((laws_toHistory.f kj16 a0_0 l0_1 a0_2).bind fun bt344 => ((impl_Undo.f kj16 bt344.1 bt344.2.1 bt344.2.2).bind fun bt349 => ((laws_eqHistoryOut.f kj16 bt349.1 bt349.2.1 bt349.2.2.1 bt349.2.2.2.1 bt349.2.2.2.2 t309 t310 t311 t314 t315).bind fun t357 => (if t357 = true then ((laws_heldHistoryOut.f kj16 t323 t324 bt341.2 t328 t329 1).bind fun t358 => (if t358 < 0 then (none) else (if t358 = bt341.1 then (some true) else (none)))) else (none))))) else (none))))) = some r := by rw [if_neg (show ¬ (false = true) by decide)] at H; exact H
              clear H
              have H := H1
              clear H1
              replace H := Option.bind_eq_some_iff.mp H
              obtain ⟨⟨t341, t342⟩, A620, H⟩ := H
              replace H : ((laws_heldHistoryOut.f kj16 t323 t324 t342 t328 t329 1).bind fun t343 => (if t343 < 0 then (none) else (if t343 = t341 then ((laws_toHistory.f kj16 a0_0 l0_1 a0_2).bind fun bt344 => ((impl_Undo.f kj16 bt344.1 bt344.2.1 bt344.2.2).bind fun bt349 => ((laws_eqHistoryOut.f kj16 bt349.1 bt349.2.1 bt349.2.2.1 bt349.2.2.2.1 bt349.2.2.2.2 t309 t310 t311 t314 t315).bind fun t357 => (if t357 = true then ((laws_heldHistoryOut.f kj16 t323 t324 t342 t328 t329 1).bind fun t358 => (if t358 < 0 then (none) else (if t358 = t341 then (some true) else (none)))) else (none))))) else (none)))) = some r := H
              have A62 := am A620
              clear A620
              replace H := Option.bind_eq_some_iff.mp H
              obtain ⟨t343, A630, H⟩ := H
              replace H : (if t343 < 0 then (none) else (if t343 = t341 then ((laws_toHistory.f kj16 a0_0 l0_1 a0_2).bind fun bt344 => ((impl_Undo.f kj16 bt344.1 bt344.2.1 bt344.2.2).bind fun bt349 => ((laws_eqHistoryOut.f kj16 bt349.1 bt349.2.1 bt349.2.2.1 bt349.2.2.2.1 bt349.2.2.2.2 t309 t310 t311 t314 t315).bind fun t357 => (if t357 = true then ((laws_heldHistoryOut.f kj16 t323 t324 t342 t328 t329 1).bind fun t358 => (if t358 < 0 then (none) else (if t358 = t341 then (some true) else (none)))) else (none))))) else (none))) = some r := H
              have A63 := am A630
              clear A630
              by_cases c64 : t343 < 0
              · rw [if_pos c64] at H
                exact absurd H (by simp)
              · rw [if_neg c64] at H
                have c64b0 : decide (t343 < 0) = false := decide_eq_false c64
                clear c64
                by_cases c65 : t343 = t341
                · rw [if_pos c65] at H
                  have c65b0 : (t343 == t341) = true := beq_iff_eq.mpr c65
                  have c65b1 : (t343 != t341) = false := bne_eq_false_iff_eq.mpr c65
                  clear c65
                  replace H := Option.bind_eq_some_iff.mp H
                  obtain ⟨⟨t344, t345, t348⟩, A660, H⟩ := H
                  replace H : ((impl_Undo.f kj16 t344 t345 t348).bind fun bt349 => ((laws_eqHistoryOut.f kj16 bt349.1 bt349.2.1 bt349.2.2.1 bt349.2.2.2.1 bt349.2.2.2.2 t309 t310 t311 t314 t315).bind fun t357 => (if t357 = true then ((laws_heldHistoryOut.f kj16 t323 t324 t342 t328 t329 1).bind fun t358 => (if t358 < 0 then (none) else (if t358 = t341 then (some true) else (none)))) else (none)))) = some r := H
                  have A66 := am A660
                  clear A660
                  replace H := Option.bind_eq_some_iff.mp H
                  obtain ⟨⟨t349, t350, t351, t354, t355⟩, A670, H⟩ := H
                  replace H : ((laws_eqHistoryOut.f kj16 t349 t350 t351 t354 t355 t309 t310 t311 t314 t315).bind fun t357 => (if t357 = true then ((laws_heldHistoryOut.f kj16 t323 t324 t342 t328 t329 1).bind fun t358 => (if t358 < 0 then (none) else (if t358 = t341 then (some true) else (none)))) else (none))) = some r := H
                  have A67 := am A670
                  clear A670
                  replace H := Option.bind_eq_some_iff.mp H
                  obtain ⟨t357, A680, H⟩ := H
                  replace H : (if t357 = true then ((laws_heldHistoryOut.f kj16 t323 t324 t342 t328 t329 1).bind fun t358 => (if t358 < 0 then (none) else (if t358 = t341 then (some true) else (none)))) else (none)) = some r := H
                  have A68 := am A680
                  clear A680
                  by_cases c69 : t357 = true
                  · subst c69
                    have H1 : ((laws_heldHistoryOut.f kj16 t323 t324 t342 t328 t329 1).bind fun t358 => (if t358 < 0 then (none) else (if t358 = t341 then (some true) else (none)))) = some r := by rw [if_pos rfl] at H; exact H
                    clear H
                    have H := H1
                    clear H1
                    replace H := Option.bind_eq_some_iff.mp H
                    obtain ⟨t358, A700, H⟩ := H
                    replace H : (if t358 < 0 then (none) else (if t358 = t341 then (some true) else (none))) = some r := H
                    have A70 := am A700
                    clear A700
                    by_cases c71 : t358 < 0
                    · rw [if_pos c71] at H
                      exact absurd H (by simp)
                    · rw [if_neg c71] at H
                      have c71b0 : decide (t358 < 0) = false := decide_eq_false c71
                      clear c71
                      by_cases c72 : t358 = t341
                      · rw [if_pos c72] at H
                        have c72b0 : (t358 == t341) = true := beq_iff_eq.mpr c72
                        have c72b1 : (t358 != t341) = false := bne_eq_false_iff_eq.mpr c72
                        clear c72
                        obtain rfl := Option.some.inj H
                        have hnb73 := NB330_302.out
                        have hnc73 := NB302_330.out
                        have hnb74 := NB330_316.out
                        have hnc74 := NB316_330.out
                        have hnb75 := NB330_322.out
                        have hnc75 := NB322_330.out
                        have hcz76 := bc5 BK330.out
                        go_wp2_with (first | ((with_reducible refine gate_callee (f := 33) rfl ?_); refine gL (some 45) Try.func33 #[.agg #[.int .i64 t323, .string t324, .slice Ao42 t325.length co42, .int .i64 t328, .string t329], .int .i64 1] rfl ?_; (with_reducible refine (laws_markHistoryOut.calls kj16 t323 t324 (fun k_ => some k_ = (.slice Ao42 t325.length co42 : Value).ownBlock) (.slice Ao42 t325.length co42) t325 t328 t329 1 t341 t342 w _ ?side1 ?side2 A62.out).mono ?_); (case side1 => exact i_); (case side2 => exact Kd.R_tight rfl HO_331002.out); rintro e w77 ⟨rfl, hy0, hb, hkp⟩; refine ⟨_, rfl, ?_⟩; replace HO_317002 := am (Kd.R_mono (ok' := fun k_ => some k_ ≠ (.slice Ao35 t339.length co35 : Value).ownBlock ∧ some k_ ≠ (.slice Ao42 t325.length co42 : Value).ownBlock) (Kd.R_keptB (HO_317002.out) hkp (fun k_ hk_ hs_ => (hk_.2) hs_)) (fun k_ hk_ => ⟨hk_.1.1, hk_.1.2⟩)); replace HO_323001 := am (Kd.R_mono (ok' := fun k_ => some k_ ≠ (.slice Ao28 t311.length co28 : Value).ownBlock ∧ some k_ ≠ (.slice Ao42 t325.length co42 : Value).ownBlock) (Kd.R_keptB (HO_323001.out) hkp (fun k_ hk_ hs_ => (hk_.2) hs_)) (fun k_ hk_ => ⟨hk_.1.1, hk_.1.2⟩)); replace BK302 := am (blk_kept (kB BK302.out i_) hkp (fun hs_ => (fun e_ => (Kd.R_ne HO_331002.out BK302.out (by decide)) e_) hs_)); replace BK316 := am (blk_kept (kB BK316.out i_) hkp (fun hs_ => (fun e_ => (Kd.R_ne HO_331002.out BK316.out (by decide)) e_) hs_)); replace BK322 := am (blk_kept (kB BK322.out i_) hkp (fun hs_ => (fun e_ => (Kd.R_ne HO_331002.out BK322.out (by decide)) e_) hs_)); replace BK330 := am (blk_kept (kB BK330.out i_) hkp (fun hs_ => (fun e_ => (Kd.R_ne HO_331002.out BK330.out (by decide)) e_) hs_)); replace HO_331002 := am (Kd.R_reok rfl hy0 (fun k_ e_ => HO_331002.out.1 k_ e_)); replace HB := am (hb); (try clear hb); (try clear hkp); (try clear hy0); have hcz78 := bc5 BK330.out) | ((with_reducible refine gate_callee (f := 34) rfl ?_); refine goesL_ (some 48) rfl rfl Try.func34 (by kernel_rfl) rfl #[.agg #[.int .i64 t323, .string t324, .slice Ao42 t342.length co42, .int .i64 t328, .string t329], .int .i64 1] rfl (by (try simp only [List.map_toArray, List.map_cons, List.map_nil]); first | done | (rw [show t342.length = t325.length from (Kd.R_reads' HO_331002.out).1.symm] <;> rfl) | rfl | (simp only [List.length_drop, List.length_take]; rfl)) ?_; (with_reducible refine (laws_heldHistoryOut.calls kj16 t323 t324 _ _ t342 t328 t329 1 t343 _ ?side1 ?side2 A63.out).mono ?_); (case side1 => repeat (first | exact (Kd.R_reads' HO_331002.out).2.2 | (with_reducible refine Kd.C_alloc ?_ _) | (with_reducible refine Kd.C_drewN ?_ _) | (with_reducible refine Kd.C_drew ?_))); (case side2 => rw [show t342.length = t325.length from (Kd.R_reads' HO_331002.out).1.symm]; exact (Kd.R_reads' HO_331002.out).2.1); rintro e w79 ⟨rfl, hb⟩; refine ⟨_, rfl, ?_⟩; replace HO_317002 := am (rB HO_317002.out i_ hb); replace HO_323001 := am (rB HO_323001.out i_ hb); replace HO_331002 := am (rB HO_331002.out i_ hb); replace BK302 := am (blk_below (g := gb302) (o := .cells #[.string a0_0, .slice A0_1 l0_1.length c0_1, .int .i64 a0_2] 24 (0, 0)) i_ hb); replace BK316 := am (blk_below (g := gb316) (o := .cells #[.int .i64 t309, .string t310, .slice Ao28 t311.length co28, .int .i64 t314, .string t315] 50 (0, 0)) i_ hb); replace BK322 := am (blk_below (g := gb322) (o := .cells #[.string t317, .slice Ao35 t339.length co35, .int .i64 t321] 29 (0, 0)) i_ hb); replace BK330 := am (blk_below (g := gb330) (o := .cells #[.int .i64 t323, .string t324, .slice Ao42 t325.length co42, .int .i64 t328, .string t329] 50 (0, 0)) i_ hb); replace HB := am (below_step (w := w) i_ hb); (try clear hb); (try clear hb2); (try clear hk); (try clear hi); have hnb80 := NB302_316.out; have hnc80 := NB316_302.out; have hnb81 := NB302_322.out; have hnc81 := NB322_302.out; have hcz82 := bc3 BK302.out) | ((with_reducible refine gate_callee (f := 14) rfl ?_); refine gL (some 55) Try.func14 #[.agg #[.string a0_0, .slice A0_1 l0_1.length c0_1, .int .i64 a0_2]] rfl ?_; (with_reducible refine (laws_toHistory.calls kj16 a0_0 _ _ l0_1 a0_2 t344 t345 t348 _ ?side1 ?side2 A66.out).mono ?_); (case side1 => exact Kd.C_below HR0_1.out i_); (case side2 => exact HC0_1.out); rintro e w83 ⟨v346, rfl, ho0, hb⟩; refine ⟨_, rfl, ?_⟩; have HO347 := am (Kd.R_lower (Kd.R_new' (Kd.R_new' (Kd.R_new' ho0 (Kd.R_lt (by (with_reducible repeat (first | apply Kd.R_alloc | apply Kd.R_drewN | apply Kd.R_drew)); exact HO_317002.out))) (Kd.R_lt (by (with_reducible repeat (first | apply Kd.R_alloc | apply Kd.R_drewN | apply Kd.R_drew)); exact HO_323001.out))) (Kd.R_lt (by (with_reducible repeat (first | apply Kd.R_alloc | apply Kd.R_drewN | apply Kd.R_drew)); exact HO_331002.out))) (below_size (w := w) i_)); replace HO_317002 := am (Kd.R_elder' (by (with_reducible repeat (first | apply Kd.R_alloc | apply Kd.R_drewN | apply Kd.R_drew)); exact HO_317002.out) (Kd.R_base ho0) hb); replace HO_323001 := am (Kd.R_elder' (by (with_reducible repeat (first | apply Kd.R_alloc | apply Kd.R_drewN | apply Kd.R_drew)); exact HO_323001.out) (Kd.R_base ho0) hb); replace HO_331002 := am (Kd.R_elder' (by (with_reducible repeat (first | apply Kd.R_alloc | apply Kd.R_drewN | apply Kd.R_drew)); exact HO_331002.out) (Kd.R_base ho0) hb); replace BK302 := am (blk_below (g := gb302) (o := .cells #[.string a0_0, .slice A0_1 l0_1.length c0_1, .int .i64 a0_2] 24 (0, 0)) i_ hb); replace BK316 := am (blk_below (g := gb316) (o := .cells #[.int .i64 t309, .string t310, .slice Ao28 t311.length co28, .int .i64 t314, .string t315] 50 (0, 0)) i_ hb); replace BK322 := am (blk_below (g := gb322) (o := .cells #[.string t317, .slice Ao35 t339.length co35, .int .i64 t321] 29 (0, 0)) i_ hb); replace BK330 := am (blk_below (g := gb330) (o := .cells #[.int .i64 t323, .string t324, .slice Ao42 t325.length co42, .int .i64 t328, .string t329] 50 (0, 0)) i_ hb); replace HB := am (below_step (w := w) i_ hb); (try clear hb); (try clear hb2); (try clear hk); (try clear hi); (try clear ho0); obtain ⟨Ao84, co84, eo84⟩ := Kd.R_slice HO347.out; subst eo84) | ((with_reducible refine gate_callee (f := 30) rfl ?_); refine gL (some 56) Try.func30 #[.agg #[.string t344, .slice Ao84 t345.length co84, .int .i64 t348]] rfl ?_; (with_reducible refine (impl_Undo.calls kj16 t344 _ _ t345 t348 t349 t350 t351 t354 t355 _ ?side1 ?side2 A67.out).mono ?_); (case side1 => repeat (first | exact (Kd.R_reads' HO347.out).2.2 | (with_reducible refine Kd.C_alloc ?_ _) | (with_reducible refine Kd.C_drewN ?_ _) | (with_reducible refine Kd.C_drew ?_))); (case side2 => exact (Kd.R_reads' HO347.out).2.1); rintro e w85 ⟨v352, rfl, ho0, hb⟩; refine ⟨_, rfl, ?_⟩; have HO353 := am (Kd.R_lower (Kd.R_new' (Kd.R_new' (Kd.R_new' (Kd.R_new' ho0 (Kd.R_lt (by (with_reducible repeat (first | apply Kd.R_alloc | apply Kd.R_drewN | apply Kd.R_drew)); exact HO_317002.out))) (Kd.R_lt (by (with_reducible repeat (first | apply Kd.R_alloc | apply Kd.R_drewN | apply Kd.R_drew)); exact HO_323001.out))) (Kd.R_lt (by (with_reducible repeat (first | apply Kd.R_alloc | apply Kd.R_drewN | apply Kd.R_drew)); exact HO_331002.out))) (Kd.R_lt (by (with_reducible repeat (first | apply Kd.R_alloc | apply Kd.R_drewN | apply Kd.R_drew)); exact HO347.out))) (below_size (w := w) i_)); replace HO_317002 := am (Kd.R_elder' (by (with_reducible repeat (first | apply Kd.R_alloc | apply Kd.R_drewN | apply Kd.R_drew)); exact HO_317002.out) (Kd.R_base ho0) hb); replace HO_323001 := am (Kd.R_elder' (by (with_reducible repeat (first | apply Kd.R_alloc | apply Kd.R_drewN | apply Kd.R_drew)); exact HO_323001.out) (Kd.R_base ho0) hb); replace HO_331002 := am (Kd.R_elder' (by (with_reducible repeat (first | apply Kd.R_alloc | apply Kd.R_drewN | apply Kd.R_drew)); exact HO_331002.out) (Kd.R_base ho0) hb); replace HO347 := am (Kd.R_elder' (by (with_reducible repeat (first | apply Kd.R_alloc | apply Kd.R_drewN | apply Kd.R_drew)); exact HO347.out) (Kd.R_base ho0) hb); replace BK302 := am (blk_below (g := gb302) (o := .cells #[.string a0_0, .slice A0_1 l0_1.length c0_1, .int .i64 a0_2] 24 (0, 0)) i_ hb); replace BK316 := am (blk_below (g := gb316) (o := .cells #[.int .i64 t309, .string t310, .slice Ao28 t311.length co28, .int .i64 t314, .string t315] 50 (0, 0)) i_ hb); replace BK322 := am (blk_below (g := gb322) (o := .cells #[.string t317, .slice Ao35 t339.length co35, .int .i64 t321] 29 (0, 0)) i_ hb); replace BK330 := am (blk_below (g := gb330) (o := .cells #[.int .i64 t323, .string t324, .slice Ao42 t325.length co42, .int .i64 t328, .string t329] 50 (0, 0)) i_ hb); replace HB := am (below_step (w := w) i_ hb); (try clear hb); (try clear hb2); (try clear hk); (try clear hi); (try clear ho0)) | ((with_reducible refine gate_dst (N := 10) rfl ?_); refine bX (N := 10) (cs := #[.int .i64 0, .string (⟨#[]⟩ : ByteArray), .slice none 0 0, .int .i64 0, .string (⟨#[]⟩ : ByteArray)]) (t := 50) ?_; intro gb356 hg w86 hbox hb; have BK356 := am (hbox); have GW356 := am ((by rw [hg]; exact (below_size (w := w) i_) : w.heap.size ≤ gb356)); have GE356 := am ((by rw [hg]; exact (below_size (w := w) i_) : w.heap.size ≤ gb356)); have NB302_356 := am ((by rw [hg]; exact Nat.ne_of_lt (blk_lt (g := gb302) (o := .cells #[.string a0_0, .slice A0_1 l0_1.length c0_1, .int .i64 a0_2] 24 (0, 0)) i_) : gb302 ≠ gb356)); have NB356_302 := am ((by rw [hg]; exact Nat.ne_of_gt (blk_lt (g := gb302) (o := .cells #[.string a0_0, .slice A0_1 l0_1.length c0_1, .int .i64 a0_2] 24 (0, 0)) i_) : gb356 ≠ gb302)); have NB316_356 := am ((by rw [hg]; exact Nat.ne_of_lt (blk_lt (g := gb316) (o := .cells #[.int .i64 t309, .string t310, .slice Ao28 t311.length co28, .int .i64 t314, .string t315] 50 (0, 0)) i_) : gb316 ≠ gb356)); have NB356_316 := am ((by rw [hg]; exact Nat.ne_of_gt (blk_lt (g := gb316) (o := .cells #[.int .i64 t309, .string t310, .slice Ao28 t311.length co28, .int .i64 t314, .string t315] 50 (0, 0)) i_) : gb356 ≠ gb316)); have NB322_356 := am ((by rw [hg]; exact Nat.ne_of_lt (blk_lt (g := gb322) (o := .cells #[.string t317, .slice Ao35 t339.length co35, .int .i64 t321] 29 (0, 0)) i_) : gb322 ≠ gb356)); have NB356_322 := am ((by rw [hg]; exact Nat.ne_of_gt (blk_lt (g := gb322) (o := .cells #[.string t317, .slice Ao35 t339.length co35, .int .i64 t321] 29 (0, 0)) i_) : gb356 ≠ gb322)); have NB330_356 := am ((by rw [hg]; exact Nat.ne_of_lt (blk_lt (g := gb330) (o := .cells #[.int .i64 t323, .string t324, .slice Ao42 t325.length co42, .int .i64 t328, .string t329] 50 (0, 0)) i_) : gb330 ≠ gb356)); have NB356_330 := am ((by rw [hg]; exact Nat.ne_of_gt (blk_lt (g := gb330) (o := .cells #[.int .i64 t323, .string t324, .slice Ao42 t325.length co42, .int .i64 t328, .string t329] 50 (0, 0)) i_) : gb356 ≠ gb330)); replace HO_317002 := am (rB HO_317002.out i_ hb); replace HO_323001 := am (rB HO_323001.out i_ hb); replace HO_331002 := am (rB HO_331002.out i_ hb); replace HO347 := am (rB HO347.out i_ hb); replace HO353 := am (rB HO353.out i_ hb); replace BK302 := am (blk_below (g := gb302) (o := .cells #[.string a0_0, .slice A0_1 l0_1.length c0_1, .int .i64 a0_2] 24 (0, 0)) i_ hb); replace BK316 := am (blk_below (g := gb316) (o := .cells #[.int .i64 t309, .string t310, .slice Ao28 t311.length co28, .int .i64 t314, .string t315] 50 (0, 0)) i_ hb); replace BK322 := am (blk_below (g := gb322) (o := .cells #[.string t317, .slice Ao35 t339.length co35, .int .i64 t321] 29 (0, 0)) i_ hb); replace BK330 := am (blk_below (g := gb330) (o := .cells #[.int .i64 t323, .string t324, .slice Ao42 t325.length co42, .int .i64 t328, .string t329] 50 (0, 0)) i_ hb); replace HB := am (below_step (w := w) i_ hb); clear hb hbox hg; have hnb87 := NB356_302.out; have hnc87 := NB302_356.out; have hnb88 := NB356_316.out; have hnc88 := NB316_356.out; have hnb89 := NB356_322.out; have hnc89 := NB322_356.out; have hnb90 := NB356_330.out; have hnc90 := NB330_356.out; have hcz91 := bc5 BK356.out; obtain ⟨Ao92, co92, eo92⟩ := Kd.R_slice HO353.out; subst eo92; have hnb93 := NB316_322.out; have hnc93 := NB322_316.out; have hcz94 := bc5 BK316.out) | ((with_reducible refine gate_callee (f := 31) rfl ?_); refine gL (some 59) Try.func31 #[.agg #[.int .i64 t349, .string t350, .slice Ao92 t351.length co92, .int .i64 t354, .string t355], .agg #[.int .i64 t309, .string t310, .slice Ao28 t311.length co28, .int .i64 t314, .string t315]] rfl ?_; (with_reducible refine (laws_eqHistoryOut.calls kj16 t349 t350 _ _ t351 t354 t355 t309 t310 _ _ t311 t314 t315 true _ ?side1 ?side2 ?side3 ?side4 A68.out).mono ?_); (case side1 => refine (Kd.R_reads' (e := 68) (base := w.heap.size) (ok := fun k_ => ((((True ∧ some k_ ≠ (.slice Ao28 t311.length co28 : Value).ownBlock) ∧ some k_ ≠ (.slice Ao35 t339.length co35 : Value).ownBlock) ∧ some k_ ≠ (.slice Ao42 t325.length co42 : Value).ownBlock) ∧ some k_ ≠ (.slice Ao84 t345.length co84 : Value).ownBlock)) (n := t351.length) (c := co92) ?_).2.2; exact (by (with_reducible repeat (first | apply Kd.R_alloc | apply Kd.R_drewN | apply Kd.R_drew)); exact (Kd.R_mono (Kd.R_far (p := ⟨gb356, 4, none⟩) (Kd.R_far (p := ⟨gb356, 3, none⟩) (Kd.R_far (p := ⟨gb356, 2, none⟩) (Kd.R_far (p := ⟨gb356, 1, none⟩) (Kd.R_far (p := ⟨gb356, 0, none⟩) (Kd.R_types HO353.out BK356.out (by decide)) (fun _ hk => hk.2) (.int .i64 t349)) (fun _ hk => hk.2) (.string t350)) (fun _ hk => hk.2) (.slice Ao92 t351.length co92)) (fun _ hk => hk.2) (.int .i64 t354)) (fun _ hk => hk.2) (.string t355)) (fun _ h_ => h_.1)))); (case side2 => exact (Kd.R_reads' HO353.out).2.1); (case side3 => refine (Kd.R_reads' (e := 68) (base := w.heap.size) (ok := fun k_ => (((some k_ ≠ (.slice Ao35 t339.length co35 : Value).ownBlock ∧ some k_ ≠ (.slice Ao42 t325.length co42 : Value).ownBlock) ∧ some k_ ≠ (.slice Ao84 t345.length co84 : Value).ownBlock) ∧ some k_ ≠ (.slice Ao92 t351.length co92 : Value).ownBlock)) (n := t311.length) (c := co28) ?_).2.2; exact (by (with_reducible repeat (first | apply Kd.R_alloc | apply Kd.R_drewN | apply Kd.R_drew)); exact (Kd.R_mono (Kd.R_far (p := ⟨gb356, 4, none⟩) (Kd.R_far (p := ⟨gb356, 3, none⟩) (Kd.R_far (p := ⟨gb356, 2, none⟩) (Kd.R_far (p := ⟨gb356, 1, none⟩) (Kd.R_far (p := ⟨gb356, 0, none⟩) (Kd.R_types HO_317002.out BK356.out (by decide)) (fun _ hk => hk.2) (.int .i64 t349)) (fun _ hk => hk.2) (.string t350)) (fun _ hk => hk.2) (.slice Ao92 t351.length co92)) (fun _ hk => hk.2) (.int .i64 t354)) (fun _ hk => hk.2) (.string t355)) (fun _ h_ => h_.1)))); (case side4 => exact (Kd.R_reads' HO_317002.out).2.1); rintro e w95 ⟨rfl, hb⟩; refine ⟨_, rfl, ?_⟩; replace HO_317002 := am (Kd.R_below (by (with_reducible repeat (first | apply Kd.R_alloc | apply Kd.R_drewN | apply Kd.R_drew)); exact (Kd.R_mono (Kd.R_far (p := ⟨gb356, 4, none⟩) (Kd.R_far (p := ⟨gb356, 3, none⟩) (Kd.R_far (p := ⟨gb356, 2, none⟩) (Kd.R_far (p := ⟨gb356, 1, none⟩) (Kd.R_far (p := ⟨gb356, 0, none⟩) (Kd.R_types HO_317002.out BK356.out (by decide)) (fun _ hk => hk.2) (.int .i64 t349)) (fun _ hk => hk.2) (.string t350)) (fun _ hk => hk.2) (.slice Ao92 t351.length co92)) (fun _ hk => hk.2) (.int .i64 t354)) (fun _ hk => hk.2) (.string t355)) (fun _ h_ => h_.1))) hb); replace HO_323001 := am (Kd.R_below (by (with_reducible repeat (first | apply Kd.R_alloc | apply Kd.R_drewN | apply Kd.R_drew)); exact (Kd.R_mono (Kd.R_far (p := ⟨gb356, 4, none⟩) (Kd.R_far (p := ⟨gb356, 3, none⟩) (Kd.R_far (p := ⟨gb356, 2, none⟩) (Kd.R_far (p := ⟨gb356, 1, none⟩) (Kd.R_far (p := ⟨gb356, 0, none⟩) (Kd.R_types HO_323001.out BK356.out (by decide)) (fun _ hk => hk.2) (.int .i64 t349)) (fun _ hk => hk.2) (.string t350)) (fun _ hk => hk.2) (.slice Ao92 t351.length co92)) (fun _ hk => hk.2) (.int .i64 t354)) (fun _ hk => hk.2) (.string t355)) (fun _ h_ => h_.1))) hb); replace HO_331002 := am (Kd.R_below (by (with_reducible repeat (first | apply Kd.R_alloc | apply Kd.R_drewN | apply Kd.R_drew)); exact (Kd.R_mono (Kd.R_far (p := ⟨gb356, 4, none⟩) (Kd.R_far (p := ⟨gb356, 3, none⟩) (Kd.R_far (p := ⟨gb356, 2, none⟩) (Kd.R_far (p := ⟨gb356, 1, none⟩) (Kd.R_far (p := ⟨gb356, 0, none⟩) (Kd.R_types HO_331002.out BK356.out (by decide)) (fun _ hk => hk.2) (.int .i64 t349)) (fun _ hk => hk.2) (.string t350)) (fun _ hk => hk.2) (.slice Ao92 t351.length co92)) (fun _ hk => hk.2) (.int .i64 t354)) (fun _ hk => hk.2) (.string t355)) (fun _ h_ => h_.1))) hb); replace HO347 := am (Kd.R_below (by (with_reducible repeat (first | apply Kd.R_alloc | apply Kd.R_drewN | apply Kd.R_drew)); exact (Kd.R_mono (Kd.R_far (p := ⟨gb356, 4, none⟩) (Kd.R_far (p := ⟨gb356, 3, none⟩) (Kd.R_far (p := ⟨gb356, 2, none⟩) (Kd.R_far (p := ⟨gb356, 1, none⟩) (Kd.R_far (p := ⟨gb356, 0, none⟩) (Kd.R_types HO347.out BK356.out (by decide)) (fun _ hk => hk.2) (.int .i64 t349)) (fun _ hk => hk.2) (.string t350)) (fun _ hk => hk.2) (.slice Ao92 t351.length co92)) (fun _ hk => hk.2) (.int .i64 t354)) (fun _ hk => hk.2) (.string t355)) (fun _ h_ => h_.1))) hb); replace HO353 := am (Kd.R_below (by (with_reducible repeat (first | apply Kd.R_alloc | apply Kd.R_drewN | apply Kd.R_drew)); exact (Kd.R_mono (Kd.R_far (p := ⟨gb356, 4, none⟩) (Kd.R_far (p := ⟨gb356, 3, none⟩) (Kd.R_far (p := ⟨gb356, 2, none⟩) (Kd.R_far (p := ⟨gb356, 1, none⟩) (Kd.R_far (p := ⟨gb356, 0, none⟩) (Kd.R_types HO353.out BK356.out (by decide)) (fun _ hk => hk.2) (.int .i64 t349)) (fun _ hk => hk.2) (.string t350)) (fun _ hk => hk.2) (.slice Ao92 t351.length co92)) (fun _ hk => hk.2) (.int .i64 t354)) (fun _ hk => hk.2) (.string t355)) (fun _ h_ => h_.1))) hb); replace BK302 := am (blk_below (g := gb302) (o := .cells #[.string a0_0, .slice A0_1 l0_1.length c0_1, .int .i64 a0_2] 24 (0, 0)) i_ hb); replace BK316 := am (blk_below (g := gb316) (o := .cells #[.int .i64 t309, .string t310, .slice Ao28 t311.length co28, .int .i64 t314, .string t315] 50 (0, 0)) i_ hb); replace BK322 := am (blk_below (g := gb322) (o := .cells #[.string t317, .slice Ao35 t339.length co35, .int .i64 t321] 29 (0, 0)) i_ hb); replace BK330 := am (blk_below (g := gb330) (o := .cells #[.int .i64 t323, .string t324, .slice Ao42 t325.length co42, .int .i64 t328, .string t329] 50 (0, 0)) i_ hb); replace BK356 := am (blk_below (g := gb356) (o := .cells #[.int .i64 t349, .string t350, .slice Ao92 t351.length co92, .int .i64 t354, .string t355] 50 (0, 0)) (by (with_reducible repeat (first | refine blk_drewN ?_ _ | refine blk_drew ?_ | refine blk_alloc ?_ _)); refine blk_put (cs := #[.int .i64 t349, .string t350, .slice Ao92 t351.length co92, .int .i64 t354, .string (⟨#[]⟩ : ByteArray)]) ?_ 4 _ rfl; (with_reducible repeat (first | refine blk_drewN ?_ _ | refine blk_drew ?_ | refine blk_alloc ?_ _)); refine blk_put (cs := #[.int .i64 t349, .string t350, .slice Ao92 t351.length co92, .int .i64 0, .string (⟨#[]⟩ : ByteArray)]) ?_ 3 _ rfl; (with_reducible repeat (first | refine blk_drewN ?_ _ | refine blk_drew ?_ | refine blk_alloc ?_ _)); refine blk_put (cs := #[.int .i64 t349, .string t350, .slice none 0 0, .int .i64 0, .string (⟨#[]⟩ : ByteArray)]) ?_ 2 _ rfl; (with_reducible repeat (first | refine blk_drewN ?_ _ | refine blk_drew ?_ | refine blk_alloc ?_ _)); refine blk_put (cs := #[.int .i64 t349, .string (⟨#[]⟩ : ByteArray), .slice none 0 0, .int .i64 0, .string (⟨#[]⟩ : ByteArray)]) ?_ 1 _ rfl; (with_reducible repeat (first | refine blk_drewN ?_ _ | refine blk_drew ?_ | refine blk_alloc ?_ _)); refine blk_put (cs := #[.int .i64 0, .string (⟨#[]⟩ : ByteArray), .slice none 0 0, .int .i64 0, .string (⟨#[]⟩ : ByteArray)]) ?_ 0 _ rfl; (with_reducible repeat (first | refine blk_drewN ?_ _ | refine blk_drew ?_ | refine blk_alloc ?_ _)); exact BK356.out) hb); replace HB := am (below_step (w := w) i_ hb); (try clear hb); (try clear hb2); (try clear hk); (try clear hi); have hcz96 := bc5 BK330.out) | ((with_reducible refine gate_callee (f := 34) rfl ?_); refine goesL_ (some 63) rfl rfl Try.func34 (by kernel_rfl) rfl #[.agg #[.int .i64 t323, .string t324, .slice Ao42 t342.length co42, .int .i64 t328, .string t329], .int .i64 1] rfl (by (try simp only [List.map_toArray, List.map_cons, List.map_nil]); first | done | (rw [show t342.length = t325.length from (Kd.R_reads' HO_331002.out).1.symm] <;> rfl) | rfl | (simp only [List.length_drop, List.length_take]; rfl)) ?_; (with_reducible refine (laws_heldHistoryOut.calls kj16 t323 t324 _ _ t342 t328 t329 1 t358 _ ?side1 ?side2 A70.out).mono ?_); (case side1 => repeat (first | exact (Kd.R_reads' HO_331002.out).2.2 | (with_reducible refine Kd.C_alloc ?_ _) | (with_reducible refine Kd.C_drewN ?_ _) | (with_reducible refine Kd.C_drew ?_))); (case side2 => rw [show t342.length = t325.length from (Kd.R_reads' HO_331002.out).1.symm]; exact (Kd.R_reads' HO_331002.out).2.1); rintro e w97 ⟨rfl, hb⟩; refine ⟨_, rfl, ?_⟩; replace HO_317002 := am (rB HO_317002.out i_ hb); replace HO_323001 := am (rB HO_323001.out i_ hb); replace HO_331002 := am (rB HO_331002.out i_ hb); replace HO347 := am (rB HO347.out i_ hb); replace HO353 := am (rB HO353.out i_ hb); replace BK302 := am (blk_below (g := gb302) (o := .cells #[.string a0_0, .slice A0_1 l0_1.length c0_1, .int .i64 a0_2] 24 (0, 0)) i_ hb); replace BK316 := am (blk_below (g := gb316) (o := .cells #[.int .i64 t309, .string t310, .slice Ao28 t311.length co28, .int .i64 t314, .string t315] 50 (0, 0)) i_ hb); replace BK322 := am (blk_below (g := gb322) (o := .cells #[.string t317, .slice Ao35 t339.length co35, .int .i64 t321] 29 (0, 0)) i_ hb); replace BK330 := am (blk_below (g := gb330) (o := .cells #[.int .i64 t323, .string t324, .slice Ao42 t325.length co42, .int .i64 t328, .string t329] 50 (0, 0)) i_ hb); replace BK356 := am (blk_below (g := gb356) (o := .cells #[.int .i64 t349, .string t350, .slice Ao92 t351.length co92, .int .i64 t354, .string t355] 50 (0, 0)) i_ hb); replace HB := am (below_step (w := w) i_ hb); (try clear hb); (try clear hb2); (try clear hk); ((try clear hi))))
                        go_ret
                        exact ⟨by first | rfl | (simp [errW_none, errW_some] <;> rfl) | (simp [*, errW_none, errW_some] <;> rfl), i_⟩
                      · rw [if_neg c72] at H
                        exact absurd H (by simp)
                  · replace c69 := Bool.eq_false_iff.mpr c69
                    subst c69
                    have H1 : (none) = some r := by rw [if_neg (show ¬ (false = true) by decide)] at H; exact H
                    clear H
                    have H := H1
                    clear H1
                    exact absurd H (by simp)
                · rw [if_neg c65] at H
                  exact absurd H (by simp)
      · replace c15 := Bool.eq_false_iff.mpr c15
        subst c15
        have H1 : (none) = some r := by rw [if_neg (show ¬ (false = true) by decide)] at H; exact H
        clear H
        have H := H1
        clear H1
        exact absurd H (by simp)
    · replace c12 := Bool.eq_false_iff.mpr c12
      subst c12
      have H1 : (none) = some r := by rw [if_neg (show ¬ (false = true) by decide)] at H; exact H
      clear H
      have H := H1
      clear H1
      exact absurd H (by simp)

/-! ### spec_Redo: function 35 -/
def spec_Redo.f (k : Nat) (a0_0 : ByteArray) (l0_1 : List (S68)) (a0_2 : Int) : Option (Int × ByteArray × (List (S68)) × Int × ByteArray) := (spec_l21Go.f k a0_0 l0_1 a0_2 1).bind fun bt361 => (some (bt361.1, bt361.2.1, bt361.2.2.1, bt361.2.2.2.1, bt361.2.2.2.2))
theorem spec_Redo.mono : ∀ a0 a1 a2 k, LeO (spec_Redo.f k a0 a1 a2) (spec_Redo.f (k + 1) a0 a1 a2) := by
  intro a0 a1 a2 k
  unfold spec_Redo.f
  repeat' first
      | (with_reducible exact spec_l21Go.mono _ _ _ _ _)
      | (with_reducible exact LeO.refl _)
      | (with_reducible exact LeO.none _)
      | (with_reducible refine LeO.ite ?_ ?_)
      | (with_reducible refine LeO.bind ?_ (fun _ => ?_))
      | exact spec_l21Go.mono _ _ _ _ _
      | exact LeO.none _
      | refine LeO.ite ?_ ?_
      | refine LeO.bind ?_ (fun _ => ?_)
set_option maxHeartbeats 8000000 in
set_option maxRecDepth 100000 in
theorem spec_Redo.calls (k : Nat) (a0_0 : ByteArray) (A0_1 : Option Addr) (c0_1 : Nat) (l0_1 : List (S68)) (a0_2 : Int) (r1 : Int) (r2 : ByteArray) (r3 : List (S68)) (r4 : Int) (r5 : ByteArray) (w : World) (hr0_1 : Kd.C k68 w A0_1 l0_1.length l0_1) (hc0_1 : l0_1.length ≤ c0_1) (h : spec_Redo.f k a0_0 l0_1 a0_2 = some (r1, r2, r3, r4, r5)) :
    Calls Try.prog 35 #[.agg #[.string a0_0, .slice A0_1 l0_1.length c0_1, .int .i64 a0_2]] w fun e w' => ∃ v2_ : Value, e = .returned (.agg #[.int .i64 r1, .string r2, v2_, .int .i64 r4, .string r5]) ∧ Kd.R k68 68 w' w.heap.size (fun _ => True) v2_ r3 ∧ Below w.heap.size w w' := by
  have hu29 := Try.underlying29
  have hu50 := Try.underlying50
  have HR0_1 := am hr0_1
  have HC0_1 := am hc0_1
  clear hr0_1 hc0_1
  have HB := am (Below.refl w.heap.size w)
  have H : ((spec_l21Go.f k a0_0 l0_1 a0_2 1).bind fun bt361 => (some (bt361.1, bt361.2.1, bt361.2.2.1, bt361.2.2.2.1, bt361.2.2.2.2))) = some (r1, r2, r3, r4, r5) := h
  clear h
  replace H := Option.bind_eq_some_iff.mp H
  obtain ⟨⟨t361, t362, t363, t366, t367⟩, A20, H⟩ := H
  replace H : (some (t361, t362, t363, t366, t367)) = some (r1, r2, r3, r4, r5) := H
  have A2 := am A20
  clear A20
  simp only [Option.some.injEq, Prod.mk.injEq] at H
  obtain ⟨rfl, rfl, rfl, rfl, rfl⟩ := H
  go_enter Try.func35, Try.ntmps35
  go_wp2_with (first | ((with_reducible refine gate_dst (N := 1) rfl ?_); refine bX (N := 1) (cs := #[.string a0_0, .slice A0_1 l0_1.length c0_1, .int .i64 a0_2]) (t := 29) ?_; intro gb359 hg w3 hbox hb; have BK359 := am (hbox); have GW359 := am ((by rw [hg]; exact (below_size (w := w) i_) : w.heap.size ≤ gb359)); have GE359 := am ((by rw [hg]; exact (below_size (w := w) i_) : w.heap.size ≤ gb359)); replace HB := am (below_step (w := w) i_ hb); clear hb hbox hg) | ((with_reducible refine gate_dst (N := 2) rfl ?_); refine bX (N := 2) (cs := #[.int .i64 0, .string (⟨#[]⟩ : ByteArray), .slice none 0 0, .int .i64 0, .string (⟨#[]⟩ : ByteArray)]) (t := 50) ?_; intro gb360 hg w4 hbox hb; have BK360 := am (hbox); have GW360 := am ((by rw [hg]; exact (below_size (w := w) i_) : w.heap.size ≤ gb360)); have GE360 := am ((by rw [hg]; exact (below_size (w := w) i_) : w.heap.size ≤ gb360)); have NB359_360 := am ((by rw [hg]; exact Nat.ne_of_lt (blk_lt (g := gb359) (o := .cells #[.string a0_0, .slice A0_1 l0_1.length c0_1, .int .i64 a0_2] 29 (0, 0)) i_) : gb359 ≠ gb360)); have NB360_359 := am ((by rw [hg]; exact Nat.ne_of_gt (blk_lt (g := gb359) (o := .cells #[.string a0_0, .slice A0_1 l0_1.length c0_1, .int .i64 a0_2] 29 (0, 0)) i_) : gb360 ≠ gb359)); replace BK359 := am (blk_below (g := gb359) (o := .cells #[.string a0_0, .slice A0_1 l0_1.length c0_1, .int .i64 a0_2] 29 (0, 0)) i_ hb); replace HB := am (below_step (w := w) i_ hb); clear hb hbox hg; have hnb5 := NB359_360.out; have hnc5 := NB360_359.out; have hcz6 := bc3 BK359.out) | ((with_reducible refine gate_callee (f := 53) rfl ?_); refine gL (some 4) Try.func53 #[.agg #[.string a0_0, .slice A0_1 l0_1.length c0_1, .int .i64 a0_2], .int .i64 1] rfl ?_; (with_reducible refine (spec_l21Go.calls k a0_0 _ _ l0_1 a0_2 1 t361 t362 t363 t366 t367 _ ?side1 ?side2 A2.out).mono ?_); (case side1 => exact Kd.C_below HR0_1.out i_); (case side2 => exact HC0_1.out); rintro e w7 ⟨v364, rfl, ho0, hb⟩; refine ⟨_, rfl, ?_⟩; have HO365 := am (Kd.R_lower ho0 (below_size (w := w) i_)); replace BK359 := am (blk_below (g := gb359) (o := .cells #[.string a0_0, .slice A0_1 l0_1.length c0_1, .int .i64 a0_2] 29 (0, 0)) i_ hb); replace BK360 := am (blk_below (g := gb360) (o := .cells #[.int .i64 0, .string (⟨#[]⟩ : ByteArray), .slice none 0 0, .int .i64 0, .string (⟨#[]⟩ : ByteArray)] 50 (0, 0)) i_ hb); replace HB := am (below_step (w := w) i_ hb); (try clear hb); (try clear hb2); (try clear hk); (try clear hi); (try clear ho0); have hcz8 := bc5 BK360.out; obtain ⟨Ao9, co9, eo9⟩ := Kd.R_slice HO365.out; subst eo9))
  refine bodyPost_ret (results_cell_row rfl _ _ gb360 50 #[.int .i64 t361, .string t362, .slice Ao9 t363.length co9, .int .i64 t366, .string t367] (0, 0) _ rfl (by (with_reducible repeat (first | refine blk_drewN ?_ _ | refine blk_drew ?_ | refine blk_alloc ?_ _)); refine blk_put (cs := #[.int .i64 t361, .string t362, .slice Ao9 t363.length co9, .int .i64 t366, .string (⟨#[]⟩ : ByteArray)]) ?_ 4 _ rfl; (with_reducible repeat (first | refine blk_drewN ?_ _ | refine blk_drew ?_ | refine blk_alloc ?_ _)); refine blk_put (cs := #[.int .i64 t361, .string t362, .slice Ao9 t363.length co9, .int .i64 0, .string (⟨#[]⟩ : ByteArray)]) ?_ 3 _ rfl; (with_reducible repeat (first | refine blk_drewN ?_ _ | refine blk_drew ?_ | refine blk_alloc ?_ _)); refine blk_put (cs := #[.int .i64 t361, .string t362, .slice none 0 0, .int .i64 0, .string (⟨#[]⟩ : ByteArray)]) ?_ 2 _ rfl; (with_reducible repeat (first | refine blk_drewN ?_ _ | refine blk_drew ?_ | refine blk_alloc ?_ _)); refine blk_put (cs := #[.int .i64 t361, .string (⟨#[]⟩ : ByteArray), .slice none 0 0, .int .i64 0, .string (⟨#[]⟩ : ByteArray)]) ?_ 1 _ rfl; (with_reducible repeat (first | refine blk_drewN ?_ _ | refine blk_drew ?_ | refine blk_alloc ?_ _)); refine blk_put (cs := #[.int .i64 0, .string (⟨#[]⟩ : ByteArray), .slice none 0 0, .int .i64 0, .string (⟨#[]⟩ : ByteArray)]) ?_ 0 _ rfl; (with_reducible repeat (first | refine blk_drewN ?_ _ | refine blk_drew ?_ | refine blk_alloc ?_ _)); exact BK360.out) Try.underlying50 rfl (by kernel_rfl)) rfl ?_
  exact ⟨_, by first | rfl | (simp [errW_none, errW_some] <;> rfl) | (simp [*, errW_none, errW_some] <;> rfl), by (with_reducible repeat (first | apply Kd.R_alloc | apply Kd.R_drewN | apply Kd.R_drew)); exact Kd.R_mono (Kd.R_far (p := ⟨gb360, 4, none⟩) (Kd.R_far (p := ⟨gb360, 3, none⟩) (Kd.R_far (p := ⟨gb360, 2, none⟩) (Kd.R_far (p := ⟨gb360, 1, none⟩) (Kd.R_far (p := ⟨gb360, 0, none⟩) (Kd.R_types HO365.out BK360.out (by decide)) (fun _ hk => hk.2) (.int .i64 t361)) (fun _ hk => hk.2) (.string t362)) (fun _ hk => hk.2) (.slice Ao9 t363.length co9)) (fun _ hk => hk.2) (.int .i64 t366)) (fun _ hk => hk.2) (.string t367)) (fun _ hk => trivial), i_⟩

end Go.Proofs.Ytopbiepiceajnaa.Q
