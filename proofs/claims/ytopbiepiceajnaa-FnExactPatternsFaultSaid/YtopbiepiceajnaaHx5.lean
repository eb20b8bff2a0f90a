-- Written by xprint.py (wip/ of this repository): one Lean function and its proof for each Go function.
import Derived.Test.YtopbiepiceajnaaHx0
import Derived.Test.YtopbiepiceajnaaHx1
import Derived.Test.YtopbiepiceajnaaHx2
import Derived.Test.YtopbiepiceajnaaHx4
namespace Go.Proofs.Ytopbiepiceajnaa.H
open Go.RowKit Go.Proofs.YtopbiepiceajnaaW.PrintWords Go.Proofs.YtopbiepiceajnaaW.PrintLast Go.Proofs.YtopbiepiceajnaaW.PrintMore
attribute [local go_sem] max2_int min2_int max_two min_two max_three min_three max_four min_four   -- for this text's walks alone
set_option linter.unusedVariables false
set_option linter.unusedSimpArgs false

/-! ### laws_FnExactPatternsFault: function 5 -/
def laws_FnExactPatternsFault.f (k : Nat) (l0 : List ByteArray) : Option (Bool) := (laws_szStringS.f k l0 1048576).bind fun t169 => (if t169 < 0 then (some true) else ((laws_toStringS.f k l0).bind fun t170 => ((spec_PatternsFault.f k t170).bind fun t173 => ((laws_toStringS.f k l0).bind fun t174 => ((impl_PatternsFault.f k t174).bind fun t177 => (if t177 = t173 then ((laws_toStringS.f k l0).bind fun t178 => ((laws_eqStringS.f k t174 t178).bind fun t181 => (if t181 = true then (some true) else (none)))) else (none)))))))
theorem laws_FnExactPatternsFault.mono : ∀ a0 k, LeO (laws_FnExactPatternsFault.f k a0) (laws_FnExactPatternsFault.f (k + 1) a0) := by
  intro a0 k
  unfold laws_FnExactPatternsFault.f
  repeat' first
      | (with_reducible exact impl_PatternsFault.mono _ _)
      | (with_reducible exact laws_eqStringS.mono _ _ _)
      | (with_reducible exact laws_szStringS.mono _ _ _)
      | (with_reducible exact laws_toStringS.mono _ _)
      | (with_reducible exact spec_PatternsFault.mono _ _)
      | (with_reducible exact LeO.refl _)
      | (with_reducible exact LeO.none _)
      | (with_reducible refine LeO.ite ?_ ?_)
      | (with_reducible refine LeO.bind ?_ (fun _ => ?_))
      | exact impl_PatternsFault.mono _ _
      | exact laws_eqStringS.mono _ _ _
      | exact laws_szStringS.mono _ _ _
      | exact laws_toStringS.mono _ _
      | exact spec_PatternsFault.mono _ _
      | exact LeO.none _
      | refine LeO.ite ?_ ?_
      | refine LeO.bind ?_ (fun _ => ?_)
set_option maxHeartbeats 8000000 in
set_option maxRecDepth 100000 in
theorem laws_FnExactPatternsFault.calls (k : Nat) (A0 : Option Addr) (c0 : Nat) (l0 : List ByteArray) (r : Bool) (w : World) (hr0 : Kd.C Kd.string w A0 l0.length l0) (hc0 : l0.length ≤ c0) (h : laws_FnExactPatternsFault.f k l0 = some r) :
    Calls Try.prog 5 #[.slice A0 l0.length c0] w fun e w' => e = .returned (.bool r) ∧ Below w.heap.size w w' := by
  have HR0 := am hr0
  have HC0 := am hc0
  clear hr0 hc0
  have HB := am (Below.refl w.heap.size w)
  have H : ((laws_szStringS.f k l0 1048576).bind fun t169 => (if t169 < 0 then (some true) else ((laws_toStringS.f k l0).bind fun t170 => ((spec_PatternsFault.f k t170).bind fun t173 => ((laws_toStringS.f k l0).bind fun t174 => ((impl_PatternsFault.f k t174).bind fun t177 => (if t177 = t173 then ((laws_toStringS.f k l0).bind fun t178 => ((laws_eqStringS.f k t174 t178).bind fun t181 => (if t181 = true then (some true) else (none)))) else (none)))))))) = some r := h
  clear h
  replace H := Option.bind_eq_some_iff.mp H
  obtain ⟨t169, A20, H⟩ := H
  replace H : (if t169 < 0 then (some true) else ((laws_toStringS.f k l0).bind fun t170 => ((spec_PatternsFault.f k t170).bind fun t173 => ((laws_toStringS.f k l0).bind fun t174 => ((impl_PatternsFault.f k t174).bind fun t177 => (if t177 = t173 then ((laws_toStringS.f k l0).bind fun t178 => ((laws_eqStringS.f k t174 t178).bind fun t181 => (if t181 = true then (some true) else (none)))) else (none))))))) = some r := H
  have A2 := am A20
  clear A20
  by_cases c3 : t169 < 0
  · rw [if_pos c3] at H
    have c3b0 : decide (t169 < 0) = true := decide_eq_true c3
    clear c3
    obtain rfl := Option.some.inj H
    go_enter Try.func5, Try.ntmps5
    go_wp2_with (first | ((with_reducible refine gate_callee (f := 19) rfl ?_); refine gL (some 9) Try.func19 #[.slice A0 l0.length c0, .int .i64 1048576] rfl ?_; (with_reducible refine (laws_szStringS.calls k _ _ l0 1048576 t169 _ ?side1 ?side2 A2.out).mono ?_); (case side1 => repeat (first | exact HR0.out | (with_reducible refine Kd.C_alloc ?_ _) | (with_reducible refine Kd.C_drewN ?_ _) | (with_reducible refine Kd.C_drew ?_))); (case side2 => exact HC0.out); rintro e w' ⟨rfl, ⟨nd, rfl⟩⟩; refine ⟨_, rfl, ?_⟩))
    go_ret
    exact ⟨by first | rfl | (simp [errW_none, errW_some] <;> rfl) | (simp [*, errW_none, errW_some] <;> rfl), i_⟩
  · rw [if_neg c3] at H
    have c3b0 : decide (t169 < 0) = false := decide_eq_false c3
    clear c3
    replace H := Option.bind_eq_some_iff.mp H
    obtain ⟨t170, A40, H⟩ := H
    replace H : ((spec_PatternsFault.f k t170).bind fun t173 => ((laws_toStringS.f k l0).bind fun t174 => ((impl_PatternsFault.f k t174).bind fun t177 => (if t177 = t173 then ((laws_toStringS.f k l0).bind fun t178 => ((laws_eqStringS.f k t174 t178).bind fun t181 => (if t181 = true then (some true) else (none)))) else (none))))) = some r := H
    have A4 := am A40
    clear A40
    replace H := Option.bind_eq_some_iff.mp H
    obtain ⟨t173, A50, H⟩ := H
    replace H : ((laws_toStringS.f k l0).bind fun t174 => ((impl_PatternsFault.f k t174).bind fun t177 => (if t177 = t173 then ((laws_toStringS.f k l0).bind fun t178 => ((laws_eqStringS.f k t174 t178).bind fun t181 => (if t181 = true then (some true) else (none)))) else (none)))) = some r := H
    have A5 := am A50
    clear A50
    replace H := Option.bind_eq_some_iff.mp H
    obtain ⟨t174, A60, H⟩ := H
    replace H : ((impl_PatternsFault.f k t174).bind fun t177 => (if t177 = t173 then ((laws_toStringS.f k l0).bind fun t178 => ((laws_eqStringS.f k t174 t178).bind fun t181 => (if t181 = true then (some true) else (none)))) else (none))) = some r := H
    have A6 := am A60
    clear A60
    replace H := Option.bind_eq_some_iff.mp H
    obtain ⟨t177, A70, H⟩ := H
    replace H : (if t177 = t173 then ((laws_toStringS.f k l0).bind fun t178 => ((laws_eqStringS.f k t174 t178).bind fun t181 => (if t181 = true then (some true) else (none)))) else (none)) = some r := H
    have A7 := am A70
    clear A70
    by_cases c8 : t177 = t173
    · rw [if_pos c8] at H
      have c8b0 : (t177 == t173) = true := beq_iff_eq.mpr c8
      have c8b1 : (t177 != t173) = false := bne_eq_false_iff_eq.mpr c8
      clear c8
      replace H := Option.bind_eq_some_iff.mp H
      obtain ⟨t178, A90, H⟩ := H
      replace H : ((laws_eqStringS.f k t174 t178).bind fun t181 => (if t181 = true then (some true) else (none))) = some r := H
      have A9 := am A90
      clear A90
      replace H := Option.bind_eq_some_iff.mp H
      obtain ⟨t181, A100, H⟩ := H
      replace H : (if t181 = true then (some true) else (none)) = some r := H
      have A10 := am A100
      clear A100
      by_cases c11 : t181 = true
      · subst c11
        have H1 : (some true) = some r := by rw [if_pos rfl] at H; exact H
        clear H
        have H := H1
        clear H1
        obtain rfl := Option.some.inj H
        go_enter Try.func5, Try.ntmps5
        go_wp2_with (first | ((with_reducible refine gate_callee (f := 19) rfl ?_); refine gL (some 9) Try.func19 #[.slice A0 l0.length c0, .int .i64 1048576] rfl ?_; (with_reducible refine (laws_szStringS.calls k _ _ l0 1048576 t169 _ ?side1 ?side2 A2.out).mono ?_); (case side1 => repeat (first | exact HR0.out | (with_reducible refine Kd.C_alloc ?_ _) | (with_reducible refine Kd.C_drewN ?_ _) | (with_reducible refine Kd.C_drew ?_))); (case side2 => exact HC0.out); rintro e w' ⟨rfl, ⟨nd, rfl⟩⟩; refine ⟨_, rfl, ?_⟩) | ((with_reducible refine gate_callee (f := 21) rfl ?_); refine gL (some 13) Try.func21 #[.slice A0 l0.length c0] rfl ?_; (with_reducible refine (laws_toStringS.calls k _ _ l0 t170 _ ?side1 ?side2 A4.out).mono ?_); (case side1 => repeat (first | exact HR0.out | (with_reducible refine Kd.C_alloc ?_ _) | (with_reducible refine Kd.C_drewN ?_ _) | (with_reducible refine Kd.C_drew ?_))); (case side2 => exact HC0.out); rintro e w12 ⟨v171, rfl, ho0, hb⟩; refine ⟨_, rfl, ?_⟩; have HO172 := am (Kd.R_lower ho0 (below_size (w := w) i_)); replace HB := am (below_step (w := w) i_ hb); (try clear hb); (try clear hb2); (try clear hk); (try clear hi); (try clear ho0); obtain ⟨Ao13, co13, eo13⟩ := Kd.R_slice HO172.out; subst eo13) | ((with_reducible refine gate_callee (f := 20) rfl ?_); refine gL (some 14) Try.func20 #[.slice Ao13 t170.length co13] rfl ?_; (with_reducible refine (spec_PatternsFault.calls k _ _ t170 t173 _ ?side1 ?side2 A5.out).mono ?_); (case side1 => repeat (first | exact (Kd.R_reads' HO172.out).2.2 | (with_reducible refine Kd.C_alloc ?_ _) | (with_reducible refine Kd.C_drewN ?_ _) | (with_reducible refine Kd.C_drew ?_))); (case side2 => exact (Kd.R_reads' HO172.out).2.1); rintro e w14 ⟨rfl, hb⟩; refine ⟨_, rfl, ?_⟩; replace HO172 := am (rB HO172.out i_ hb); replace HB := am (below_step (w := w) i_ hb); (try clear hb); (try clear hb2); (try clear hk); (try clear hi)) | ((with_reducible refine gate_callee (f := 21) rfl ?_); refine gL (some 16) Try.func21 #[.slice A0 l0.length c0] rfl ?_; (with_reducible refine (laws_toStringS.calls k _ _ l0 t174 _ ?side1 ?side2 A6.out).mono ?_); (case side1 => exact Kd.C_below HR0.out i_); (case side2 => exact HC0.out); rintro e w15 ⟨v175, rfl, ho0, hb⟩; refine ⟨_, rfl, ?_⟩; have HO176 := am (Kd.R_lower (Kd.R_new' ho0 (Kd.R_lt (by (with_reducible repeat (first | apply Kd.R_alloc | apply Kd.R_drewN | apply Kd.R_drew)); exact HO172.out))) (below_size (w := w) i_)); replace HO172 := am (Kd.R_elder' (by (with_reducible repeat (first | apply Kd.R_alloc | apply Kd.R_drewN | apply Kd.R_drew)); exact HO172.out) (Kd.R_base ho0) hb); replace HB := am (below_step (w := w) i_ hb); (try clear hb); (try clear hb2); (try clear hk); (try clear hi); (try clear ho0); obtain ⟨Ao16, co16, eo16⟩ := Kd.R_slice HO176.out; subst eo16) | ((with_reducible refine gate_callee (f := 22) rfl ?_); refine gL (some 18) Try.func22 #[.slice Ao16 t174.length co16] rfl ?_; (with_reducible refine (impl_PatternsFault.calls k _ _ t174 t177 _ ?side1 ?side2 A7.out).mono ?_); (case side1 => repeat (first | exact (Kd.R_reads' HO176.out).2.2 | (with_reducible refine Kd.C_alloc ?_ _) | (with_reducible refine Kd.C_drewN ?_ _) | (with_reducible refine Kd.C_drew ?_))); (case side2 => exact (Kd.R_reads' HO176.out).2.1); rintro e w17 ⟨rfl, hb⟩; refine ⟨_, rfl, ?_⟩; replace HO172 := am (rB HO172.out i_ hb); replace HO176 := am (rB HO176.out i_ hb); replace HB := am (below_step (w := w) i_ hb); (try clear hb); (try clear hb2); (try clear hk); (try clear hi)) | ((with_reducible refine gate_callee (f := 21) rfl ?_); refine gL (some 24) Try.func21 #[.slice A0 l0.length c0] rfl ?_; (with_reducible refine (laws_toStringS.calls k _ _ l0 t178 _ ?side1 ?side2 A9.out).mono ?_); (case side1 => exact Kd.C_below HR0.out i_); (case side2 => exact HC0.out); rintro e w18 ⟨v179, rfl, ho0, hb⟩; refine ⟨_, rfl, ?_⟩; have HO180 := am (Kd.R_lower (Kd.R_new' (Kd.R_new' ho0 (Kd.R_lt (by (with_reducible repeat (first | apply Kd.R_alloc | apply Kd.R_drewN | apply Kd.R_drew)); exact HO172.out))) (Kd.R_lt (by (with_reducible repeat (first | apply Kd.R_alloc | apply Kd.R_drewN | apply Kd.R_drew)); exact HO176.out))) (below_size (w := w) i_)); replace HO172 := am (Kd.R_elder' (by (with_reducible repeat (first | apply Kd.R_alloc | apply Kd.R_drewN | apply Kd.R_drew)); exact HO172.out) (Kd.R_base ho0) hb); replace HO176 := am (Kd.R_elder' (by (with_reducible repeat (first | apply Kd.R_alloc | apply Kd.R_drewN | apply Kd.R_drew)); exact HO176.out) (Kd.R_base ho0) hb); replace HB := am (below_step (w := w) i_ hb); (try clear hb); (try clear hb2); (try clear hk); (try clear hi); (try clear ho0); obtain ⟨Ao19, co19, eo19⟩ := Kd.R_slice HO180.out; subst eo19) | ((with_reducible refine gate_callee (f := 23) rfl ?_); refine gL (some 25) Try.func23 #[.slice Ao16 t174.length co16, .slice Ao19 t178.length co19] rfl ?_; (with_reducible refine (laws_eqStringS.calls k _ _ t174 _ _ t178 true _ ?side1 ?side2 ?side3 ?side4 A10.out).mono ?_); (case side1 => repeat (first | exact (Kd.R_reads' HO176.out).2.2 | (with_reducible refine Kd.C_alloc ?_ _) | (with_reducible refine Kd.C_drewN ?_ _) | (with_reducible refine Kd.C_drew ?_))); (case side2 => exact (Kd.R_reads' HO176.out).2.1); (case side3 => repeat (first | exact (Kd.R_reads' HO180.out).2.2 | (with_reducible refine Kd.C_alloc ?_ _) | (with_reducible refine Kd.C_drewN ?_ _) | (with_reducible refine Kd.C_drew ?_))); (case side4 => exact (Kd.R_reads' HO180.out).2.1); rintro e w' ⟨rfl, ⟨nd, rfl⟩⟩; refine ⟨_, rfl, ?_⟩))
        go_ret
        exact ⟨by first | rfl | (simp [errW_none, errW_some] <;> rfl) | (simp [*, errW_none, errW_some] <;> rfl), i_⟩
      · replace c11 := Bool.eq_false_iff.mpr c11
        subst c11
        have H1 : (none) = some r := by rw [if_neg (show ¬ (false = true) by decide)] at H; exact H
        clear H
        have H := H1
        clear H1
        exact absurd H (by simp)
    · rw [if_neg c8] at H
      exact absurd H (by simp)

/-! ### laws_szStyle: function 24 -/
def laws_szStyle.f (k : Nat) (a0_0 : Int) (a0_1 : Int) (a0_2 : Int) (l0_3 : List ByteArray) (a1 : Int) : Option (Int) := (laws_szStringS.f k l0_3 a1).bind fun t183 => (if t183 < 0 then (some (-1)) else (some t183))
theorem laws_szStyle.mono : ∀ a0 a1 a2 a3 a4 k, LeO (laws_szStyle.f k a0 a1 a2 a3 a4) (laws_szStyle.f (k + 1) a0 a1 a2 a3 a4) := by
  intro a0 a1 a2 a3 a4 k
  unfold laws_szStyle.f
  repeat' first
      | (with_reducible exact laws_szStringS.mono _ _ _)
      | (with_reducible exact LeO.refl _)
      | (with_reducible exact LeO.none _)
      | (with_reducible refine LeO.ite ?_ ?_)
      | (with_reducible refine LeO.bind ?_ (fun _ => ?_))
      | exact laws_szStringS.mono _ _ _
      | exact LeO.none _
      | refine LeO.ite ?_ ?_
      | refine LeO.bind ?_ (fun _ => ?_)
set_option maxHeartbeats 8000000 in
set_option maxRecDepth 100000 in
theorem laws_szStyle.calls (k : Nat) (a0_0 : Int) (a0_1 : Int) (a0_2 : Int) (A0_3 : Option Addr) (c0_3 : Nat) (l0_3 : List ByteArray) (a1 : Int) (r : Int) (w : World) (hr0_3 : Kd.C Kd.string w A0_3 l0_3.length l0_3) (hc0_3 : l0_3.length ≤ c0_3) (h : laws_szStyle.f k a0_0 a0_1 a0_2 l0_3 a1 = some r) :
    Calls Try.prog 24 #[.agg #[.int .i64 a0_0, .int .i64 a0_1, .int .i64 a0_2, .slice A0_3 l0_3.length c0_3], .int .i64 a1] w fun e w' => e = .returned (.int .i64 r) ∧ Below w.heap.size w w' := by
  have hu42 := Try.underlying42
  have HR0_3 := am hr0_3
  have HC0_3 := am hc0_3
  clear hr0_3 hc0_3
  have HB := am (Below.refl w.heap.size w)
  have H : ((laws_szStringS.f k l0_3 a1).bind fun t183 => (if t183 < 0 then (some (-1)) else (some t183))) = some r := h
  clear h
  replace H := Option.bind_eq_some_iff.mp H
  obtain ⟨t183, A30, H⟩ := H
  replace H : (if t183 < 0 then (some (-1)) else (some t183)) = some r := H
  have A3 := am A30
  clear A30
  by_cases c4 : t183 < 0
  · rw [if_pos c4] at H
    have c4b0 : decide (t183 < 0) = true := decide_eq_true c4
    clear c4
    obtain rfl := Option.some.inj H
    go_enter Try.func24, Try.ntmps24
    go_wp2_with (first | ((with_reducible refine gate_dst (N := 2) rfl ?_); refine bX (N := 2) (cs := #[.int .i64 a0_0, .int .i64 a0_1, .int .i64 a0_2, .slice A0_3 l0_3.length c0_3]) (t := 42) ?_; intro gb182 hg w5 hbox hb; have BK182 := am (hbox); have GW182 := am ((by rw [hg]; exact (below_size (w := w) i_) : w.heap.size ≤ gb182)); have GE182 := am ((by rw [hg]; exact (below_size (w := w) i_) : w.heap.size ≤ gb182)); replace HB := am (below_step (w := w) i_ hb); clear hb hbox hg; have hcz6 := bc4 BK182.out) | ((with_reducible refine gate_callee (f := 19) rfl ?_); refine gL (some 8) Try.func19 #[.slice A0_3 l0_3.length c0_3, .int .i64 a1] rfl ?_; (with_reducible refine (laws_szStringS.calls k _ _ l0_3 a1 t183 _ ?side1 ?side2 A3.out).mono ?_); (case side1 => exact Kd.C_below HR0_3.out i_); (case side2 => exact HC0_3.out); rintro e w' ⟨rfl, ⟨nd, rfl⟩⟩; refine ⟨_, rfl, ?_⟩))
    go_ret
    exact ⟨by first | rfl | (simp [errW_none, errW_some] <;> rfl) | (simp [*, errW_none, errW_some] <;> rfl), i_⟩
  · rw [if_neg c4] at H
    have c4b0 : decide (t183 < 0) = false := decide_eq_false c4
    clear c4
    obtain rfl := Option.some.inj H
    go_enter Try.func24, Try.ntmps24
    go_wp2_with (first | ((with_reducible refine gate_dst (N := 2) rfl ?_); refine bX (N := 2) (cs := #[.int .i64 a0_0, .int .i64 a0_1, .int .i64 a0_2, .slice A0_3 l0_3.length c0_3]) (t := 42) ?_; intro gb182 hg w7 hbox hb; have BK182 := am (hbox); have GW182 := am ((by rw [hg]; exact (below_size (w := w) i_) : w.heap.size ≤ gb182)); have GE182 := am ((by rw [hg]; exact (below_size (w := w) i_) : w.heap.size ≤ gb182)); replace HB := am (below_step (w := w) i_ hb); clear hb hbox hg; have hcz8 := bc4 BK182.out) | ((with_reducible refine gate_callee (f := 19) rfl ?_); refine gL (some 8) Try.func19 #[.slice A0_3 l0_3.length c0_3, .int .i64 a1] rfl ?_; (with_reducible refine (laws_szStringS.calls k _ _ l0_3 a1 t183 _ ?side1 ?side2 A3.out).mono ?_); (case side1 => exact Kd.C_below HR0_3.out i_); (case side2 => exact HC0_3.out); rintro e w' ⟨rfl, ⟨nd, rfl⟩⟩; refine ⟨_, rfl, ?_⟩))
    go_ret
    exact ⟨by first | rfl | (simp [errW_none, errW_some] <;> rfl) | (simp [*, errW_none, errW_some] <;> rfl), i_⟩

/-! ### spec_StyleFault: function 25 -/
def spec_StyleFault.f (k : Nat) (a0_0 : Int) (a0_1 : Int) (a0_2 : Int) (l0_3 : List ByteArray) : Option (Int) := if a0_0 < 1 then (some 1) else (if a0_0 > 200 then (some 1) else (if a0_1 < 0 then (some 1) else (if a0_1 > a0_0 then (some 1) else (if a0_2 < 0 then (some 1) else (if a0_2 > 1000000 then (some 1) else ((spec_PatternsFault.f k l0_3).bind fun t185 => (some t185)))))))
theorem spec_StyleFault.mono : ∀ a0 a1 a2 a3 k, LeO (spec_StyleFault.f k a0 a1 a2 a3) (spec_StyleFault.f (k + 1) a0 a1 a2 a3) := by
  intro a0 a1 a2 a3 k
  unfold spec_StyleFault.f
  repeat' first
      | (with_reducible exact spec_PatternsFault.mono _ _)
      | (with_reducible exact LeO.refl _)
      | (with_reducible exact LeO.none _)
      | (with_reducible refine LeO.ite ?_ ?_)
      | (with_reducible refine LeO.bind ?_ (fun _ => ?_))
      | exact spec_PatternsFault.mono _ _
      | exact LeO.none _
      | refine LeO.ite ?_ ?_
      | refine LeO.bind ?_ (fun _ => ?_)
set_option maxHeartbeats 8000000 in
set_option maxRecDepth 100000 in
theorem spec_StyleFault.calls (k : Nat) (a0_0 : Int) (a0_1 : Int) (a0_2 : Int) (A0_3 : Option Addr) (c0_3 : Nat) (l0_3 : List ByteArray) (r : Int) (w : World) (hr0_3 : Kd.C Kd.string w A0_3 l0_3.length l0_3) (hc0_3 : l0_3.length ≤ c0_3) (h : spec_StyleFault.f k a0_0 a0_1 a0_2 l0_3 = some r) :
    Calls Try.prog 25 #[.agg #[.int .i64 a0_0, .int .i64 a0_1, .int .i64 a0_2, .slice A0_3 l0_3.length c0_3]] w fun e w' => e = .returned (.int .i64 r) ∧ Below w.heap.size w w' := by
  have hu45 := Try.underlying45
  have HR0_3 := am hr0_3
  have HC0_3 := am hc0_3
  clear hr0_3 hc0_3
  have HB := am (Below.refl w.heap.size w)
  have H : (if a0_0 < 1 then (some 1) else (if a0_0 > 200 then (some 1) else (if a0_1 < 0 then (some 1) else (if a0_1 > a0_0 then (some 1) else (if a0_2 < 0 then (some 1) else (if a0_2 > 1000000 then (some 1) else ((spec_PatternsFault.f k l0_3).bind fun t185 => (some t185)))))))) = some r := h
  clear h
  by_cases c2 : a0_0 < 1
  · rw [if_pos c2] at H
    have c2b0 : decide (a0_0 < 1) = true := decide_eq_true c2
    clear c2
    obtain rfl := Option.some.inj H
    go_enter Try.func25, Try.ntmps25
    go_wp2_with (first | ((with_reducible refine gate_dst (N := 1) rfl ?_); refine bX (N := 1) (cs := #[.int .i64 a0_0, .int .i64 a0_1, .int .i64 a0_2, .slice A0_3 l0_3.length c0_3]) (t := 45) ?_; intro gb184 hg w3 hbox hb; have BK184 := am (hbox); have GW184 := am ((by rw [hg]; exact (below_size (w := w) i_) : w.heap.size ≤ gb184)); have GE184 := am ((by rw [hg]; exact (below_size (w := w) i_) : w.heap.size ≤ gb184)); replace HB := am (below_step (w := w) i_ hb); clear hb hbox hg; have hcz4 := bc4 BK184.out))
    go_ret
    exact ⟨by first | rfl | (simp [errW_none, errW_some] <;> rfl) | (simp [*, errW_none, errW_some] <;> rfl), i_⟩
  · rw [if_neg c2] at H
    have c2b0 : decide (a0_0 < 1) = false := decide_eq_false c2
    clear c2
    by_cases c5 : a0_0 > 200
    · rw [if_pos c5] at H
      have c5b0 : decide (200 < a0_0) = true := decide_eq_true c5
      clear c5
      obtain rfl := Option.some.inj H
      go_enter Try.func25, Try.ntmps25
      go_wp2_with (first | ((with_reducible refine gate_dst (N := 1) rfl ?_); refine bX (N := 1) (cs := #[.int .i64 a0_0, .int .i64 a0_1, .int .i64 a0_2, .slice A0_3 l0_3.length c0_3]) (t := 45) ?_; intro gb184 hg w6 hbox hb; have BK184 := am (hbox); have GW184 := am ((by rw [hg]; exact (below_size (w := w) i_) : w.heap.size ≤ gb184)); have GE184 := am ((by rw [hg]; exact (below_size (w := w) i_) : w.heap.size ≤ gb184)); replace HB := am (below_step (w := w) i_ hb); clear hb hbox hg; have hcz7 := bc4 BK184.out))
      go_ret
      exact ⟨by first | rfl | (simp [errW_none, errW_some] <;> rfl) | (simp [*, errW_none, errW_some] <;> rfl), i_⟩
    · rw [if_neg c5] at H
      have c5b0 : decide (200 < a0_0) = false := decide_eq_false c5
      clear c5
      by_cases c8 : a0_1 < 0
      · rw [if_pos c8] at H
        have c8b0 : decide (a0_1 < 0) = true := decide_eq_true c8
        clear c8
        obtain rfl := Option.some.inj H
        go_enter Try.func25, Try.ntmps25
        go_wp2_with (first | ((with_reducible refine gate_dst (N := 1) rfl ?_); refine bX (N := 1) (cs := #[.int .i64 a0_0, .int .i64 a0_1, .int .i64 a0_2, .slice A0_3 l0_3.length c0_3]) (t := 45) ?_; intro gb184 hg w9 hbox hb; have BK184 := am (hbox); have GW184 := am ((by rw [hg]; exact (below_size (w := w) i_) : w.heap.size ≤ gb184)); have GE184 := am ((by rw [hg]; exact (below_size (w := w) i_) : w.heap.size ≤ gb184)); replace HB := am (below_step (w := w) i_ hb); clear hb hbox hg; have hcz10 := bc4 BK184.out))
        go_ret
        exact ⟨by first | rfl | (simp [errW_none, errW_some] <;> rfl) | (simp [*, errW_none, errW_some] <;> rfl), i_⟩
      · rw [if_neg c8] at H
        have c8b0 : decide (a0_1 < 0) = false := decide_eq_false c8
        clear c8
        by_cases c11 : a0_1 > a0_0
        · rw [if_pos c11] at H
          have c11b0 : decide (a0_0 < a0_1) = true := decide_eq_true c11
          clear c11
          obtain rfl := Option.some.inj H
          go_enter Try.func25, Try.ntmps25
          go_wp2_with (first | ((with_reducible refine gate_dst (N := 1) rfl ?_); refine bX (N := 1) (cs := #[.int .i64 a0_0, .int .i64 a0_1, .int .i64 a0_2, .slice A0_3 l0_3.length c0_3]) (t := 45) ?_; intro gb184 hg w12 hbox hb; have BK184 := am (hbox); have GW184 := am ((by rw [hg]; exact (below_size (w := w) i_) : w.heap.size ≤ gb184)); have GE184 := am ((by rw [hg]; exact (below_size (w := w) i_) : w.heap.size ≤ gb184)); replace HB := am (below_step (w := w) i_ hb); clear hb hbox hg; have hcz13 := bc4 BK184.out))
          go_ret
          exact ⟨by first | rfl | (simp [errW_none, errW_some] <;> rfl) | (simp [*, errW_none, errW_some] <;> rfl), i_⟩
        · rw [if_neg c11] at H
          have c11b0 : decide (a0_0 < a0_1) = false := decide_eq_false c11
          clear c11
          by_cases c14 : a0_2 < 0
          · rw [if_pos c14] at H
            have c14b0 : decide (a0_2 < 0) = true := decide_eq_true c14
            clear c14
            obtain rfl := Option.some.inj H
            go_enter Try.func25, Try.ntmps25
            go_wp2_with (first | ((with_reducible refine gate_dst (N := 1) rfl ?_); refine bX (N := 1) (cs := #[.int .i64 a0_0, .int .i64 a0_1, .int .i64 a0_2, .slice A0_3 l0_3.length c0_3]) (t := 45) ?_; intro gb184 hg w15 hbox hb; have BK184 := am (hbox); have GW184 := am ((by rw [hg]; exact (below_size (w := w) i_) : w.heap.size ≤ gb184)); have GE184 := am ((by rw [hg]; exact (below_size (w := w) i_) : w.heap.size ≤ gb184)); replace HB := am (below_step (w := w) i_ hb); clear hb hbox hg; have hcz16 := bc4 BK184.out))
            go_ret
            exact ⟨by first | rfl | (simp [errW_none, errW_some] <;> rfl) | (simp [*, errW_none, errW_some] <;> rfl), i_⟩
          · rw [if_neg c14] at H
            have c14b0 : decide (a0_2 < 0) = false := decide_eq_false c14
            clear c14
            by_cases c17 : a0_2 > 1000000
            · rw [if_pos c17] at H
              have c17b0 : decide (1000000 < a0_2) = true := decide_eq_true c17
              clear c17
              obtain rfl := Option.some.inj H
              go_enter Try.func25, Try.ntmps25
              go_wp2_with (first | ((with_reducible refine gate_dst (N := 1) rfl ?_); refine bX (N := 1) (cs := #[.int .i64 a0_0, .int .i64 a0_1, .int .i64 a0_2, .slice A0_3 l0_3.length c0_3]) (t := 45) ?_; intro gb184 hg w18 hbox hb; have BK184 := am (hbox); have GW184 := am ((by rw [hg]; exact (below_size (w := w) i_) : w.heap.size ≤ gb184)); have GE184 := am ((by rw [hg]; exact (below_size (w := w) i_) : w.heap.size ≤ gb184)); replace HB := am (below_step (w := w) i_ hb); clear hb hbox hg; have hcz19 := bc4 BK184.out))
              go_ret
              exact ⟨by first | rfl | (simp [errW_none, errW_some] <;> rfl) | (simp [*, errW_none, errW_some] <;> rfl), i_⟩
            · rw [if_neg c17] at H
              have c17b0 : decide (1000000 < a0_2) = false := decide_eq_false c17
              clear c17
              replace H := Option.bind_eq_some_iff.mp H
              obtain ⟨t185, A200, H⟩ := H
              replace H : (some t185) = some r := H
              have A20 := am A200
              clear A200
              obtain rfl := Option.some.inj H
              go_enter Try.func25, Try.ntmps25
              go_wp2_with (first | ((with_reducible refine gate_dst (N := 1) rfl ?_); refine bX (N := 1) (cs := #[.int .i64 a0_0, .int .i64 a0_1, .int .i64 a0_2, .slice A0_3 l0_3.length c0_3]) (t := 45) ?_; intro gb184 hg w21 hbox hb; have BK184 := am (hbox); have GW184 := am ((by rw [hg]; exact (below_size (w := w) i_) : w.heap.size ≤ gb184)); have GE184 := am ((by rw [hg]; exact (below_size (w := w) i_) : w.heap.size ≤ gb184)); replace HB := am (below_step (w := w) i_ hb); clear hb hbox hg; have hcz22 := bc4 BK184.out) | ((with_reducible refine gate_callee (f := 20) rfl ?_); refine gL (some 35) Try.func20 #[.slice A0_3 l0_3.length c0_3] rfl ?_; (with_reducible refine (spec_PatternsFault.calls k _ _ l0_3 t185 _ ?side1 ?side2 A20.out).mono ?_); (case side1 => exact Kd.C_below HR0_3.out i_); (case side2 => exact HC0_3.out); rintro e w23 ⟨rfl, hb⟩; refine ⟨_, rfl, ?_⟩; replace BK184 := am (blk_below (g := gb184) (o := .cells #[.int .i64 a0_0, .int .i64 a0_1, .int .i64 a0_2, .slice A0_3 l0_3.length c0_3] 45 (0, 0)) i_ hb); replace HB := am (below_step (w := w) i_ hb); (try clear hb); (try clear hb2); (try clear hk); ((try clear hi))))
              go_ret
              exact ⟨by first | rfl | (simp [errW_none, errW_some] <;> rfl) | (simp [*, errW_none, errW_some] <;> rfl), i_⟩

/-! ### laws_toStyle: function 26 -/
def laws_toStyle.f (k : Nat) (a0_0 : Int) (a0_1 : Int) (a0_2 : Int) (l0_3 : List ByteArray) : Option (Int × Int × Int × List ByteArray) := (laws_toStringS.f k l0_3).bind fun t189 => (some (a0_0, a0_1, a0_2, t189))
theorem laws_toStyle.mono : ∀ a0 a1 a2 a3 k, LeO (laws_toStyle.f k a0 a1 a2 a3) (laws_toStyle.f (k + 1) a0 a1 a2 a3) := by
  intro a0 a1 a2 a3 k
  unfold laws_toStyle.f
  repeat' first
      | (with_reducible exact laws_toStringS.mono _ _)
      | (with_reducible exact LeO.refl _)
      | (with_reducible exact LeO.none _)
      | (with_reducible refine LeO.ite ?_ ?_)
      | (with_reducible refine LeO.bind ?_ (fun _ => ?_))
      | exact laws_toStringS.mono _ _
      | exact LeO.none _
      | refine LeO.ite ?_ ?_
      | refine LeO.bind ?_ (fun _ => ?_)
set_option maxHeartbeats 8000000 in
set_option maxRecDepth 100000 in
theorem laws_toStyle.calls (k : Nat) (a0_0 : Int) (a0_1 : Int) (a0_2 : Int) (A0_3 : Option Addr) (c0_3 : Nat) (l0_3 : List ByteArray) (r1 : Int) (r2 : Int) (r3 : Int) (r4 : List ByteArray) (w : World) (hr0_3 : Kd.C Kd.string w A0_3 l0_3.length l0_3) (hc0_3 : l0_3.length ≤ c0_3) (h : laws_toStyle.f k a0_0 a0_1 a0_2 l0_3 = some (r1, r2, r3, r4)) :
    Calls Try.prog 26 #[.agg #[.int .i64 a0_0, .int .i64 a0_1, .int .i64 a0_2, .slice A0_3 l0_3.length c0_3]] w fun e w' => ∃ v3_ : Value, e = .returned (.agg #[.int .i64 r1, .int .i64 r2, .int .i64 r3, v3_]) ∧ Kd.R Kd.string 9 w' w.heap.size (fun _ => True) v3_ r4 ∧ Below w.heap.size w w' := by
  have hu42 := Try.underlying42
  have hu45 := Try.underlying45
  have HR0_3 := am hr0_3
  have HC0_3 := am hc0_3
  clear hr0_3 hc0_3
  have HB := am (Below.refl w.heap.size w)
  have H : ((laws_toStringS.f k l0_3).bind fun t189 => (some (a0_0, a0_1, a0_2, t189))) = some (r1, r2, r3, r4) := h
  clear h
  replace H := Option.bind_eq_some_iff.mp H
  obtain ⟨t189, A20, H⟩ := H
  replace H : (some (a0_0, a0_1, a0_2, t189)) = some (r1, r2, r3, r4) := H
  have A2 := am A20
  clear A20
  simp only [Option.some.injEq, Prod.mk.injEq] at H
  obtain ⟨rfl, rfl, rfl, rfl⟩ := H
  go_enter Try.func26, Try.ntmps26
  go_wp2_with (first | ((with_reducible refine gate_dst (N := 1) rfl ?_); refine bX (N := 1) (cs := #[.int .i64 a0_0, .int .i64 a0_1, .int .i64 a0_2, .slice A0_3 l0_3.length c0_3]) (t := 42) ?_; intro gb186 hg w3 hbox hb; have BK186 := am (hbox); have GW186 := am ((by rw [hg]; exact (below_size (w := w) i_) : w.heap.size ≤ gb186)); have GE186 := am ((by rw [hg]; exact (below_size (w := w) i_) : w.heap.size ≤ gb186)); replace HB := am (below_step (w := w) i_ hb); clear hb hbox hg) | ((with_reducible refine gate_dst (N := 2) rfl ?_); refine bX (N := 2) (cs := #[.int .i64 0, .int .i64 0, .int .i64 0, .slice none 0 0]) (t := 45) ?_; intro gb187 hg w4 hbox hb; have BK187 := am (hbox); have GW187 := am ((by rw [hg]; exact (below_size (w := w) i_) : w.heap.size ≤ gb187)); have GE187 := am ((by rw [hg]; exact (below_size (w := w) i_) : w.heap.size ≤ gb187)); have NB186_187 := am ((by rw [hg]; exact Nat.ne_of_lt (blk_lt (g := gb186) (o := .cells #[.int .i64 a0_0, .int .i64 a0_1, .int .i64 a0_2, .slice A0_3 l0_3.length c0_3] 42 (0, 0)) i_) : gb186 ≠ gb187)); have NB187_186 := am ((by rw [hg]; exact Nat.ne_of_gt (blk_lt (g := gb186) (o := .cells #[.int .i64 a0_0, .int .i64 a0_1, .int .i64 a0_2, .slice A0_3 l0_3.length c0_3] 42 (0, 0)) i_) : gb187 ≠ gb186)); replace BK186 := am (blk_below (g := gb186) (o := .cells #[.int .i64 a0_0, .int .i64 a0_1, .int .i64 a0_2, .slice A0_3 l0_3.length c0_3] 42 (0, 0)) i_ hb); replace HB := am (below_step (w := w) i_ hb); clear hb hbox hg) | ((with_reducible refine gate_dst (N := 3) rfl ?_); refine bX (N := 3) (cs := #[.int .i64 0, .int .i64 0, .int .i64 0, .slice none 0 0]) (t := 45) ?_; intro gb188 hg w5 hbox hb; have BK188 := am (hbox); have GW188 := am ((by rw [hg]; exact (below_size (w := w) i_) : w.heap.size ≤ gb188)); have GE188 := am ((by rw [hg]; exact (below_size (w := w) i_) : w.heap.size ≤ gb188)); have NB186_188 := am ((by rw [hg]; exact Nat.ne_of_lt (blk_lt (g := gb186) (o := .cells #[.int .i64 a0_0, .int .i64 a0_1, .int .i64 a0_2, .slice A0_3 l0_3.length c0_3] 42 (0, 0)) i_) : gb186 ≠ gb188)); have NB188_186 := am ((by rw [hg]; exact Nat.ne_of_gt (blk_lt (g := gb186) (o := .cells #[.int .i64 a0_0, .int .i64 a0_1, .int .i64 a0_2, .slice A0_3 l0_3.length c0_3] 42 (0, 0)) i_) : gb188 ≠ gb186)); have NB187_188 := am ((by rw [hg]; exact Nat.ne_of_lt (blk_lt (g := gb187) (o := .cells #[.int .i64 0, .int .i64 0, .int .i64 0, .slice none 0 0] 45 (0, 0)) i_) : gb187 ≠ gb188)); have NB188_187 := am ((by rw [hg]; exact Nat.ne_of_gt (blk_lt (g := gb187) (o := .cells #[.int .i64 0, .int .i64 0, .int .i64 0, .slice none 0 0] 45 (0, 0)) i_) : gb188 ≠ gb187)); replace BK186 := am (blk_below (g := gb186) (o := .cells #[.int .i64 a0_0, .int .i64 a0_1, .int .i64 a0_2, .slice A0_3 l0_3.length c0_3] 42 (0, 0)) i_ hb); replace BK187 := am (blk_below (g := gb187) (o := .cells #[.int .i64 0, .int .i64 0, .int .i64 0, .slice none 0 0] 45 (0, 0)) i_ hb); replace HB := am (below_step (w := w) i_ hb); clear hb hbox hg; have hnb6 := NB186_187.out; have hnc6 := NB187_186.out; have hnb7 := NB186_188.out; have hnc7 := NB188_186.out; have hcz8 := bc4 BK186.out; have hnb9 := NB188_187.out; have hnc9 := NB187_188.out; have hcz10 := bc4 BK188.out) | ((with_reducible refine gate_callee (f := 21) rfl ?_); refine gL (some 15) Try.func21 #[.slice A0_3 l0_3.length c0_3] rfl ?_; (with_reducible refine (laws_toStringS.calls k _ _ l0_3 t189 _ ?side1 ?side2 A2.out).mono ?_); (case side1 => exact Kd.C_below HR0_3.out (i_)); (case side2 => exact HC0_3.out); rintro e w11 ⟨v190, rfl, ho0, hb⟩; refine ⟨_, rfl, ?_⟩; have HO191 := am (Kd.R_lower ho0 (below_size (w := w) i_)); replace BK186 := am (blk_below (g := gb186) (o := .cells #[.int .i64 a0_0, .int .i64 a0_1, .int .i64 a0_2, .slice A0_3 l0_3.length c0_3] 42 (0, 0)) i_ hb); replace BK187 := am (blk_below (g := gb187) (o := .cells #[.int .i64 0, .int .i64 0, .int .i64 0, .slice none 0 0] 45 (0, 0)) i_ hb); replace BK188 := am (blk_below (g := gb188) (o := .cells #[.int .i64 a0_0, .int .i64 a0_1, .int .i64 a0_2, .slice none 0 0] 45 (0, 0)) (by (with_reducible repeat (first | refine blk_drewN ?_ _ | refine blk_drew ?_ | refine blk_alloc ?_ _)); refine blk_put (cs := #[.int .i64 a0_0, .int .i64 a0_1, .int .i64 0, .slice none 0 0]) ?_ 2 _ rfl; (with_reducible repeat (first | refine blk_drewN ?_ _ | refine blk_drew ?_ | refine blk_alloc ?_ _)); refine blk_put (cs := #[.int .i64 a0_0, .int .i64 0, .int .i64 0, .slice none 0 0]) ?_ 1 _ rfl; (with_reducible repeat (first | refine blk_drewN ?_ _ | refine blk_drew ?_ | refine blk_alloc ?_ _)); refine blk_put (cs := #[.int .i64 0, .int .i64 0, .int .i64 0, .slice none 0 0]) ?_ 0 _ rfl; (with_reducible repeat (first | refine blk_drewN ?_ _ | refine blk_drew ?_ | refine blk_alloc ?_ _)); exact BK188.out) hb); replace HB := am (below_step (w := w) i_ hb); (try clear hb); (try clear hb2); (try clear hk); (try clear hi); (try clear ho0); obtain ⟨Ao12, co12, eo12⟩ := Kd.R_slice HO191.out; subst eo12; have hcz13 := bc4 BK188.out; have hcz14 := bc4 BK187.out))
  refine bodyPost_ret (results_cell_row rfl _ _ gb187 45 #[.int .i64 a0_0, .int .i64 a0_1, .int .i64 a0_2, .slice Ao12 t189.length co12] (0, 0) _ rfl (by (with_reducible repeat (first | refine blk_drewN ?_ _ | refine blk_drew ?_ | refine blk_alloc ?_ _)); refine blk_put (cs := #[.int .i64 a0_0, .int .i64 a0_1, .int .i64 a0_2, .slice none 0 0]) ?_ 3 _ rfl; (with_reducible repeat (first | refine blk_drewN ?_ _ | refine blk_drew ?_ | refine blk_alloc ?_ _)); refine blk_put (cs := #[.int .i64 a0_0, .int .i64 a0_1, .int .i64 0, .slice none 0 0]) ?_ 2 _ rfl; (with_reducible repeat (first | refine blk_drewN ?_ _ | refine blk_drew ?_ | refine blk_alloc ?_ _)); refine blk_put (cs := #[.int .i64 a0_0, .int .i64 0, .int .i64 0, .slice none 0 0]) ?_ 1 _ rfl; (with_reducible repeat (first | refine blk_drewN ?_ _ | refine blk_drew ?_ | refine blk_alloc ?_ _)); refine blk_put (cs := #[.int .i64 0, .int .i64 0, .int .i64 0, .slice none 0 0]) ?_ 0 _ rfl; (with_reducible repeat (first | refine blk_drewN ?_ _ | refine blk_drew ?_ | refine blk_alloc ?_ _)); refine blk_far ?_ NB187_188.out _; (with_reducible repeat (first | refine blk_drewN ?_ _ | refine blk_drew ?_ | refine blk_alloc ?_ _)); exact BK187.out) Try.underlying45 rfl (by kernel_rfl)) rfl ?_
  exact ⟨_, by first | rfl | (simp [errW_none, errW_some] <;> rfl) | (simp [*, errW_none, errW_some] <;> rfl), by (with_reducible repeat (first | apply Kd.R_alloc | apply Kd.R_drewN | apply Kd.R_drew)); exact Kd.R_mono (Kd.R_far (p := ⟨gb187, 3, none⟩) (Kd.R_far (p := ⟨gb187, 2, none⟩) (Kd.R_far (p := ⟨gb187, 1, none⟩) (Kd.R_far (p := ⟨gb187, 0, none⟩) (Kd.R_far (p := ⟨gb188, 3, none⟩) (Kd.R_types (Kd.R_types HO191.out BK188.out (by decide)) BK187.out (by decide)) (fun _ hk => hk.1.2) (.slice Ao12 t189.length co12)) (fun _ hk => hk.2) (.int .i64 a0_0)) (fun _ hk => hk.2) (.int .i64 a0_1)) (fun _ hk => hk.2) (.int .i64 a0_2)) (fun _ hk => hk.2) (.slice Ao12 t189.length co12)) (fun _ hk => trivial), i_⟩

/-! ### impl_StyleFault: function 27 -/
def impl_StyleFault.f (k : Nat) (a0_0 : Int) (a0_1 : Int) (a0_2 : Int) (l0_3 : List ByteArray) : Option (Int) := if a0_0 < 1 then (some 1) else (if a0_0 > 200 then (some 1) else (if a0_1 < 0 then (some 1) else (if a0_1 > a0_0 then (some 1) else (if a0_2 < 0 then (some 1) else (if a0_2 > 1000000 then (some 1) else ((impl_PatternsFault.f k l0_3).bind fun t193 => (some t193)))))))
theorem impl_StyleFault.mono : ∀ a0 a1 a2 a3 k, LeO (impl_StyleFault.f k a0 a1 a2 a3) (impl_StyleFault.f (k + 1) a0 a1 a2 a3) := by
  intro a0 a1 a2 a3 k
  unfold impl_StyleFault.f
  repeat' first
      | (with_reducible exact impl_PatternsFault.mono _ _)
      | (with_reducible exact LeO.refl _)
      | (with_reducible exact LeO.none _)
      | (with_reducible refine LeO.ite ?_ ?_)
      | (with_reducible refine LeO.bind ?_ (fun _ => ?_))
      | exact impl_PatternsFault.mono _ _
      | exact LeO.none _
      | refine LeO.ite ?_ ?_
      | refine LeO.bind ?_ (fun _ => ?_)
set_option maxHeartbeats 8000000 in
set_option maxRecDepth 100000 in
theorem impl_StyleFault.calls (k : Nat) (a0_0 : Int) (a0_1 : Int) (a0_2 : Int) (A0_3 : Option Addr) (c0_3 : Nat) (l0_3 : List ByteArray) (r : Int) (w : World) (hr0_3 : Kd.C Kd.string w A0_3 l0_3.length l0_3) (hc0_3 : l0_3.length ≤ c0_3) (h : impl_StyleFault.f k a0_0 a0_1 a0_2 l0_3 = some r) :
    Calls Try.prog 27 #[.agg #[.int .i64 a0_0, .int .i64 a0_1, .int .i64 a0_2, .slice A0_3 l0_3.length c0_3]] w fun e w' => e = .returned (.int .i64 r) ∧ Below w.heap.size w w' := by
  have hu45 := Try.underlying45
  have HR0_3 := am hr0_3
  have HC0_3 := am hc0_3
  clear hr0_3 hc0_3
  have HB := am (Below.refl w.heap.size w)
  have H : (if a0_0 < 1 then (some 1) else (if a0_0 > 200 then (some 1) else (if a0_1 < 0 then (some 1) else (if a0_1 > a0_0 then (some 1) else (if a0_2 < 0 then (some 1) else (if a0_2 > 1000000 then (some 1) else ((impl_PatternsFault.f k l0_3).bind fun t193 => (some t193)))))))) = some r := h
  clear h
  by_cases c2 : a0_0 < 1
  · rw [if_pos c2] at H
    have c2b0 : decide (a0_0 < 1) = true := decide_eq_true c2
    clear c2
    obtain rfl := Option.some.inj H
    go_enter Try.func27, Try.ntmps27
    go_wp2_with (first | ((with_reducible refine gate_dst (N := 1) rfl ?_); refine bX (N := 1) (cs := #[.int .i64 a0_0, .int .i64 a0_1, .int .i64 a0_2, .slice A0_3 l0_3.length c0_3]) (t := 45) ?_; intro gb192 hg w3 hbox hb; have BK192 := am (hbox); have GW192 := am ((by rw [hg]; exact (below_size (w := w) i_) : w.heap.size ≤ gb192)); have GE192 := am ((by rw [hg]; exact (below_size (w := w) i_) : w.heap.size ≤ gb192)); replace HB := am (below_step (w := w) i_ hb); clear hb hbox hg; have hcz4 := bc4 BK192.out))
    go_ret
    exact ⟨by first | rfl | (simp [errW_none, errW_some] <;> rfl) | (simp [*, errW_none, errW_some] <;> rfl), i_⟩
  · rw [if_neg c2] at H
    have c2b0 : decide (a0_0 < 1) = false := decide_eq_false c2
    clear c2
    by_cases c5 : a0_0 > 200
    · rw [if_pos c5] at H
      have c5b0 : decide (200 < a0_0) = true := decide_eq_true c5
      clear c5
      obtain rfl := Option.some.inj H
      go_enter Try.func27, Try.ntmps27
      go_wp2_with (first | ((with_reducible refine gate_dst (N := 1) rfl ?_); refine bX (N := 1) (cs := #[.int .i64 a0_0, .int .i64 a0_1, .int .i64 a0_2, .slice A0_3 l0_3.length c0_3]) (t := 45) ?_; intro gb192 hg w6 hbox hb; have BK192 := am (hbox); have GW192 := am ((by rw [hg]; exact (below_size (w := w) i_) : w.heap.size ≤ gb192)); have GE192 := am ((by rw [hg]; exact (below_size (w := w) i_) : w.heap.size ≤ gb192)); replace HB := am (below_step (w := w) i_ hb); clear hb hbox hg; have hcz7 := bc4 BK192.out))
      go_ret
      exact ⟨by first | rfl | (simp [errW_none, errW_some] <;> rfl) | (simp [*, errW_none, errW_some] <;> rfl), i_⟩
    · rw [if_neg c5] at H
      have c5b0 : decide (200 < a0_0) = false := decide_eq_false c5
      clear c5
      by_cases c8 : a0_1 < 0
      · rw [if_pos c8] at H
        have c8b0 : decide (a0_1 < 0) = true := decide_eq_true c8
        clear c8
        obtain rfl := Option.some.inj H
        go_enter Try.func27, Try.ntmps27
        go_wp2_with (first | ((with_reducible refine gate_dst (N := 1) rfl ?_); refine bX (N := 1) (cs := #[.int .i64 a0_0, .int .i64 a0_1, .int .i64 a0_2, .slice A0_3 l0_3.length c0_3]) (t := 45) ?_; intro gb192 hg w9 hbox hb; have BK192 := am (hbox); have GW192 := am ((by rw [hg]; exact (below_size (w := w) i_) : w.heap.size ≤ gb192)); have GE192 := am ((by rw [hg]; exact (below_size (w := w) i_) : w.heap.size ≤ gb192)); replace HB := am (below_step (w := w) i_ hb); clear hb hbox hg; have hcz10 := bc4 BK192.out))
        go_ret
        exact ⟨by first | rfl | (simp [errW_none, errW_some] <;> rfl) | (simp [*, errW_none, errW_some] <;> rfl), i_⟩
      · rw [if_neg c8] at H
        have c8b0 : decide (a0_1 < 0) = false := decide_eq_false c8
        clear c8
        by_cases c11 : a0_1 > a0_0
        · rw [if_pos c11] at H
          have c11b0 : decide (a0_0 < a0_1) = true := decide_eq_true c11
          clear c11
          obtain rfl := Option.some.inj H
          go_enter Try.func27, Try.ntmps27
          go_wp2_with (first | ((with_reducible refine gate_dst (N := 1) rfl ?_); refine bX (N := 1) (cs := #[.int .i64 a0_0, .int .i64 a0_1, .int .i64 a0_2, .slice A0_3 l0_3.length c0_3]) (t := 45) ?_; intro gb192 hg w12 hbox hb; have BK192 := am (hbox); have GW192 := am ((by rw [hg]; exact (below_size (w := w) i_) : w.heap.size ≤ gb192)); have GE192 := am ((by rw [hg]; exact (below_size (w := w) i_) : w.heap.size ≤ gb192)); replace HB := am (below_step (w := w) i_ hb); clear hb hbox hg; have hcz13 := bc4 BK192.out))
          go_ret
          exact ⟨by first | rfl | (simp [errW_none, errW_some] <;> rfl) | (simp [*, errW_none, errW_some] <;> rfl), i_⟩
        · rw [if_neg c11] at H
          have c11b0 : decide (a0_0 < a0_1) = false := decide_eq_false c11
          clear c11
          by_cases c14 : a0_2 < 0
          · rw [if_pos c14] at H
            have c14b0 : decide (a0_2 < 0) = true := decide_eq_true c14
            clear c14
            obtain rfl := Option.some.inj H
            go_enter Try.func27, Try.ntmps27
            go_wp2_with (first | ((with_reducible refine gate_dst (N := 1) rfl ?_); refine bX (N := 1) (cs := #[.int .i64 a0_0, .int .i64 a0_1, .int .i64 a0_2, .slice A0_3 l0_3.length c0_3]) (t := 45) ?_; intro gb192 hg w15 hbox hb; have BK192 := am (hbox); have GW192 := am ((by rw [hg]; exact (below_size (w := w) i_) : w.heap.size ≤ gb192)); have GE192 := am ((by rw [hg]; exact (below_size (w := w) i_) : w.heap.size ≤ gb192)); replace HB := am (below_step (w := w) i_ hb); clear hb hbox hg; have hcz16 := bc4 BK192.out))
            go_ret
            exact ⟨by first | rfl | (simp [errW_none, errW_some] <;> rfl) | (simp [*, errW_none, errW_some] <;> rfl), i_⟩
          · rw [if_neg c14] at H
            have c14b0 : decide (a0_2 < 0) = false := decide_eq_false c14
            clear c14
            by_cases c17 : a0_2 > 1000000
            · rw [if_pos c17] at H
              have c17b0 : decide (1000000 < a0_2) = true := decide_eq_true c17
              clear c17
              obtain rfl := Option.some.inj H
              go_enter Try.func27, Try.ntmps27
              go_wp2_with (first | ((with_reducible refine gate_dst (N := 1) rfl ?_); refine bX (N := 1) (cs := #[.int .i64 a0_0, .int .i64 a0_1, .int .i64 a0_2, .slice A0_3 l0_3.length c0_3]) (t := 45) ?_; intro gb192 hg w18 hbox hb; have BK192 := am (hbox); have GW192 := am ((by rw [hg]; exact (below_size (w := w) i_) : w.heap.size ≤ gb192)); have GE192 := am ((by rw [hg]; exact (below_size (w := w) i_) : w.heap.size ≤ gb192)); replace HB := am (below_step (w := w) i_ hb); clear hb hbox hg; have hcz19 := bc4 BK192.out))
              go_ret
              exact ⟨by first | rfl | (simp [errW_none, errW_some] <;> rfl) | (simp [*, errW_none, errW_some] <;> rfl), i_⟩
            · rw [if_neg c17] at H
              have c17b0 : decide (1000000 < a0_2) = false := decide_eq_false c17
              clear c17
              replace H := Option.bind_eq_some_iff.mp H
              obtain ⟨t193, A200, H⟩ := H
              replace H : (some t193) = some r := H
              have A20 := am A200
              clear A200
              obtain rfl := Option.some.inj H
              go_enter Try.func27, Try.ntmps27
              go_wp2_with (first | ((with_reducible refine gate_dst (N := 1) rfl ?_); refine bX (N := 1) (cs := #[.int .i64 a0_0, .int .i64 a0_1, .int .i64 a0_2, .slice A0_3 l0_3.length c0_3]) (t := 45) ?_; intro gb192 hg w21 hbox hb; have BK192 := am (hbox); have GW192 := am ((by rw [hg]; exact (below_size (w := w) i_) : w.heap.size ≤ gb192)); have GE192 := am ((by rw [hg]; exact (below_size (w := w) i_) : w.heap.size ≤ gb192)); replace HB := am (below_step (w := w) i_ hb); clear hb hbox hg; have hcz22 := bc4 BK192.out) | ((with_reducible refine gate_callee (f := 22) rfl ?_); refine gL (some 35) Try.func22 #[.slice A0_3 l0_3.length c0_3] rfl ?_; (with_reducible refine (impl_PatternsFault.calls k _ _ l0_3 t193 _ ?side1 ?side2 A20.out).mono ?_); (case side1 => exact Kd.C_below HR0_3.out i_); (case side2 => exact HC0_3.out); rintro e w23 ⟨rfl, hb⟩; refine ⟨_, rfl, ?_⟩; replace BK192 := am (blk_below (g := gb192) (o := .cells #[.int .i64 a0_0, .int .i64 a0_1, .int .i64 a0_2, .slice A0_3 l0_3.length c0_3] 45 (0, 0)) i_ hb); replace HB := am (below_step (w := w) i_ hb); (try clear hb); (try clear hb2); (try clear hk); ((try clear hi))))
              go_ret
              exact ⟨by first | rfl | (simp [errW_none, errW_some] <;> rfl) | (simp [*, errW_none, errW_some] <;> rfl), i_⟩

/-! ### laws_eqStyle: function 28 -/
def laws_eqStyle.f (k : Nat) (a0_0 : Int) (a0_1 : Int) (a0_2 : Int) (l0_3 : List ByteArray) (a1_0 : Int) (a1_1 : Int) (a1_2 : Int) (l1_3 : List ByteArray) : Option (Bool) := if a0_0 = a1_0 then (if a0_1 = a1_1 then (if a0_2 = a1_2 then ((laws_eqStringS.f k l0_3 l1_3).bind fun t196 => (if t196 = true then (some true) else (none))) else (none)) else (none)) else (none)
theorem laws_eqStyle.mono : ∀ a0 a1 a2 a3 a4 a5 a6 a7 k, LeO (laws_eqStyle.f k a0 a1 a2 a3 a4 a5 a6 a7) (laws_eqStyle.f (k + 1) a0 a1 a2 a3 a4 a5 a6 a7) := by
  intro a0 a1 a2 a3 a4 a5 a6 a7 k
  unfold laws_eqStyle.f
  repeat' first
      | (with_reducible exact laws_eqStringS.mono _ _ _)
      | (with_reducible exact LeO.refl _)
      | (with_reducible exact LeO.none _)
      | (with_reducible refine LeO.ite ?_ ?_)
      | (with_reducible refine LeO.bind ?_ (fun _ => ?_))
      | exact laws_eqStringS.mono _ _ _
      | exact LeO.none _
      | refine LeO.ite ?_ ?_
      | refine LeO.bind ?_ (fun _ => ?_)
set_option maxHeartbeats 8000000 in
set_option maxRecDepth 100000 in
theorem laws_eqStyle.calls (k : Nat) (a0_0 : Int) (a0_1 : Int) (a0_2 : Int) (A0_3 : Option Addr) (c0_3 : Nat) (l0_3 : List ByteArray) (a1_0 : Int) (a1_1 : Int) (a1_2 : Int) (A1_3 : Option Addr) (c1_3 : Nat) (l1_3 : List ByteArray) (r : Bool) (w : World) (hr0_3 : Kd.C Kd.string w A0_3 l0_3.length l0_3) (hc0_3 : l0_3.length ≤ c0_3) (hr1_3 : Kd.C Kd.string w A1_3 l1_3.length l1_3) (hc1_3 : l1_3.length ≤ c1_3) (h : laws_eqStyle.f k a0_0 a0_1 a0_2 l0_3 a1_0 a1_1 a1_2 l1_3 = some r) :
    Calls Try.prog 28 #[.agg #[.int .i64 a0_0, .int .i64 a0_1, .int .i64 a0_2, .slice A0_3 l0_3.length c0_3], .agg #[.int .i64 a1_0, .int .i64 a1_1, .int .i64 a1_2, .slice A1_3 l1_3.length c1_3]] w fun e w' => e = .returned (.bool r) ∧ Below w.heap.size w w' := by
  have hu45 := Try.underlying45
  have HR0_3 := am hr0_3
  have HC0_3 := am hc0_3
  clear hr0_3 hc0_3
  have HR1_3 := am hr1_3
  have HC1_3 := am hc1_3
  clear hr1_3 hc1_3
  have HB := am (Below.refl w.heap.size w)
  have H : (if a0_0 = a1_0 then (if a0_1 = a1_1 then (if a0_2 = a1_2 then ((laws_eqStringS.f k l0_3 l1_3).bind fun t196 => (if t196 = true then (some true) else (none))) else (none)) else (none)) else (none)) = some r := h
  clear h
  by_cases c3 : a0_0 = a1_0
  · rw [if_pos c3] at H
    have c3b0 : (a0_0 == a1_0) = true := beq_iff_eq.mpr c3
    have c3b1 : (a0_0 != a1_0) = false := bne_eq_false_iff_eq.mpr c3
    clear c3
    by_cases c4 : a0_1 = a1_1
    · rw [if_pos c4] at H
      have c4b0 : (a0_1 == a1_1) = true := beq_iff_eq.mpr c4
      have c4b1 : (a0_1 != a1_1) = false := bne_eq_false_iff_eq.mpr c4
      clear c4
      by_cases c5 : a0_2 = a1_2
      · rw [if_pos c5] at H
        have c5b0 : (a0_2 == a1_2) = true := beq_iff_eq.mpr c5
        have c5b1 : (a0_2 != a1_2) = false := bne_eq_false_iff_eq.mpr c5
        clear c5
        replace H := Option.bind_eq_some_iff.mp H
        obtain ⟨t196, A60, H⟩ := H
        replace H : (if t196 = true then (some true) else (none)) = some r := H
        have A6 := am A60
        clear A60
        by_cases c7 : t196 = true
        · subst c7
          have H1 : (some true) = some r := by rw [if_pos rfl] at H; exact H
          clear H
          have H := H1
          clear H1
          obtain rfl := Option.some.inj H
          go_enter Try.func28, Try.ntmps28
          go_wp2_with (first | ((with_reducible refine gate_dst (N := 2) rfl ?_); refine bX (N := 2) (cs := #[.int .i64 a0_0, .int .i64 a0_1, .int .i64 a0_2, .slice A0_3 l0_3.length c0_3]) (t := 45) ?_; intro gb194 hg w8 hbox hb; have BK194 := am (hbox); have GW194 := am ((by rw [hg]; exact (below_size (w := w) i_) : w.heap.size ≤ gb194)); have GE194 := am ((by rw [hg]; exact (below_size (w := w) i_) : w.heap.size ≤ gb194)); replace HB := am (below_step (w := w) i_ hb); clear hb hbox hg) | ((with_reducible refine gate_dst (N := 3) rfl ?_); refine bX (N := 3) (cs := #[.int .i64 a1_0, .int .i64 a1_1, .int .i64 a1_2, .slice A1_3 l1_3.length c1_3]) (t := 45) ?_; intro gb195 hg w9 hbox hb; have BK195 := am (hbox); have GW195 := am ((by rw [hg]; exact (below_size (w := w) i_) : w.heap.size ≤ gb195)); have GE195 := am ((by rw [hg]; exact (below_size (w := w) i_) : w.heap.size ≤ gb195)); have NB194_195 := am ((by rw [hg]; exact Nat.ne_of_lt (blk_lt (g := gb194) (o := .cells #[.int .i64 a0_0, .int .i64 a0_1, .int .i64 a0_2, .slice A0_3 l0_3.length c0_3] 45 (0, 0)) i_) : gb194 ≠ gb195)); have NB195_194 := am ((by rw [hg]; exact Nat.ne_of_gt (blk_lt (g := gb194) (o := .cells #[.int .i64 a0_0, .int .i64 a0_1, .int .i64 a0_2, .slice A0_3 l0_3.length c0_3] 45 (0, 0)) i_) : gb195 ≠ gb194)); replace BK194 := am (blk_below (g := gb194) (o := .cells #[.int .i64 a0_0, .int .i64 a0_1, .int .i64 a0_2, .slice A0_3 l0_3.length c0_3] 45 (0, 0)) i_ hb); replace HB := am (below_step (w := w) i_ hb); clear hb hbox hg; have hnb10 := NB194_195.out; have hnc10 := NB195_194.out; have hcz11 := bc4 BK194.out; have hcz12 := bc4 BK195.out) | ((with_reducible refine gate_callee (f := 23) rfl ?_); refine gL (some 24) Try.func23 #[.slice A0_3 l0_3.length c0_3, .slice A1_3 l1_3.length c1_3] rfl ?_; (with_reducible refine (laws_eqStringS.calls k _ _ l0_3 _ _ l1_3 true _ ?side1 ?side2 ?side3 ?side4 A6.out).mono ?_); (case side1 => exact Kd.C_below HR0_3.out i_); (case side2 => exact HC0_3.out); (case side3 => exact Kd.C_below HR1_3.out i_); (case side4 => exact HC1_3.out); rintro e w' ⟨rfl, ⟨nd, rfl⟩⟩; refine ⟨_, rfl, ?_⟩))
          go_ret
          exact ⟨by first | rfl | (simp [errW_none, errW_some] <;> rfl) | (simp [*, errW_none, errW_some] <;> rfl), i_⟩
        · replace c7 := Bool.eq_false_iff.mpr c7
          subst c7
          have H1 : (none) = some r := by rw [if_neg (show ¬ (false = true) by decide)] at H; exact H
          clear H
          have H := H1
          clear H1
          exact absurd H (by simp)
      · rw [if_neg c5] at H
        exact absurd H (by simp)
    · rw [if_neg c4] at H
      exact absurd H (by simp)
  · rw [if_neg c3] at H
    exact absurd H (by simp)

/-! ### laws_FnExactStyleFault: function 6 -/
def laws_FnExactStyleFault.f (k : Nat) (a0_0 : Int) (a0_1 : Int) (a0_2 : Int) (l0_3 : List ByteArray) : Option (Bool) := (laws_szStyle.f k a0_0 a0_1 a0_2 l0_3 1048576).bind fun t198 => (if t198 < 0 then (some true) else ((laws_toStyle.f k a0_0 a0_1 a0_2 l0_3).bind fun bt199 => ((spec_StyleFault.f k bt199.1 bt199.2.1 bt199.2.2.1 bt199.2.2.2).bind fun t205 => ((laws_toStyle.f k a0_0 a0_1 a0_2 l0_3).bind fun bt206 => ((impl_StyleFault.f k bt206.1 bt206.2.1 bt206.2.2.1 bt206.2.2.2).bind fun t213 => (if t213 = t205 then ((laws_toStyle.f k a0_0 a0_1 a0_2 l0_3).bind fun bt214 => ((laws_eqStyle.f k bt206.1 bt206.2.1 bt206.2.2.1 bt206.2.2.2 bt214.1 bt214.2.1 bt214.2.2.1 bt214.2.2.2).bind fun t220 => (if t220 = true then (some true) else (none)))) else (none)))))))
theorem laws_FnExactStyleFault.mono : ∀ a0 a1 a2 a3 k, LeO (laws_FnExactStyleFault.f k a0 a1 a2 a3) (laws_FnExactStyleFault.f (k + 1) a0 a1 a2 a3) := by
  intro a0 a1 a2 a3 k
  unfold laws_FnExactStyleFault.f
  repeat' first
      | (with_reducible exact impl_StyleFault.mono _ _ _ _ _)
      | (with_reducible exact laws_eqStyle.mono _ _ _ _ _ _ _ _ _)
      | (with_reducible exact laws_szStyle.mono _ _ _ _ _ _)
      | (with_reducible exact laws_toStyle.mono _ _ _ _ _)
      | (with_reducible exact spec_StyleFault.mono _ _ _ _ _)
      | (with_reducible exact LeO.refl _)
      | (with_reducible exact LeO.none _)
      | (with_reducible refine LeO.ite ?_ ?_)
      | (with_reducible refine LeO.bind ?_ (fun _ => ?_))
      | exact impl_StyleFault.mono _ _ _ _ _
      | exact laws_eqStyle.mono _ _ _ _ _ _ _ _ _
      | exact laws_szStyle.mono _ _ _ _ _ _
      | exact laws_toStyle.mono _ _ _ _ _
      | exact spec_StyleFault.mono _ _ _ _ _
      | exact LeO.none _
      | refine LeO.ite ?_ ?_
      | refine LeO.bind ?_ (fun _ => ?_)
set_option maxHeartbeats 8000000 in
set_option maxRecDepth 100000 in
theorem laws_FnExactStyleFault.calls (k : Nat) (a0_0 : Int) (a0_1 : Int) (a0_2 : Int) (A0_3 : Option Addr) (c0_3 : Nat) (l0_3 : List ByteArray) (r : Bool) (w : World) (hr0_3 : Kd.C Kd.string w A0_3 l0_3.length l0_3) (hc0_3 : l0_3.length ≤ c0_3) (h : laws_FnExactStyleFault.f k a0_0 a0_1 a0_2 l0_3 = some r) :
    Calls Try.prog 6 #[.agg #[.int .i64 a0_0, .int .i64 a0_1, .int .i64 a0_2, .slice A0_3 l0_3.length c0_3]] w fun e w' => e = .returned (.bool r) ∧ Below w.heap.size w w' := by
  have hu42 := Try.underlying42
  have hu45 := Try.underlying45
  have HR0_3 := am hr0_3
  have HC0_3 := am hc0_3
  clear hr0_3 hc0_3
  have HB := am (Below.refl w.heap.size w)
  have H : ((laws_szStyle.f k a0_0 a0_1 a0_2 l0_3 1048576).bind fun t198 => (if t198 < 0 then (some true) else ((laws_toStyle.f k a0_0 a0_1 a0_2 l0_3).bind fun bt199 => ((spec_StyleFault.f k bt199.1 bt199.2.1 bt199.2.2.1 bt199.2.2.2).bind fun t205 => ((laws_toStyle.f k a0_0 a0_1 a0_2 l0_3).bind fun bt206 => ((impl_StyleFault.f k bt206.1 bt206.2.1 bt206.2.2.1 bt206.2.2.2).bind fun t213 => (if t213 = t205 then ((laws_toStyle.f k a0_0 a0_1 a0_2 l0_3).bind fun bt214 => ((laws_eqStyle.f k bt206.1 bt206.2.1 bt206.2.2.1 bt206.2.2.2 bt214.1 bt214.2.1 bt214.2.2.1 bt214.2.2.2).bind fun t220 => (if t220 = true then (some true) else (none)))) else (none)))))))) = some r := h
  clear h
  replace H := Option.bind_eq_some_iff.mp H
  obtain ⟨t198, A20, H⟩ := H
  replace H : (if t198 < 0 then (some true) else ((laws_toStyle.f k a0_0 a0_1 a0_2 l0_3).bind fun bt199 => ((spec_StyleFault.f k bt199.1 bt199.2.1 bt199.2.2.1 bt199.2.2.2).bind fun t205 => ((laws_toStyle.f k a0_0 a0_1 a0_2 l0_3).bind fun bt206 => ((impl_StyleFault.f k bt206.1 bt206.2.1 bt206.2.2.1 bt206.2.2.2).bind fun t213 => (if t213 = t205 then ((laws_toStyle.f k a0_0 a0_1 a0_2 l0_3).bind fun bt214 => ((laws_eqStyle.f k bt206.1 bt206.2.1 bt206.2.2.1 bt206.2.2.2 bt214.1 bt214.2.1 bt214.2.2.1 bt214.2.2.2).bind fun t220 => (if t220 = true then (some true) else (none)))) else (none))))))) = some r := H
  have A2 := am A20
  clear A20
  by_cases c3 : t198 < 0
  · rw [if_pos c3] at H
    have c3b0 : decide (t198 < 0) = true := decide_eq_true c3
    clear c3
    obtain rfl := Option.some.inj H
    go_enter Try.func6, Try.ntmps6
    go_wp2_with (first | ((with_reducible refine gate_dst (N := 1) rfl ?_); refine bX (N := 1) (cs := #[.int .i64 a0_0, .int .i64 a0_1, .int .i64 a0_2, .slice A0_3 l0_3.length c0_3]) (t := 42) ?_; intro gb197 hg w4 hbox hb; have BK197 := am (hbox); have GW197 := am ((by rw [hg]; exact (below_size (w := w) i_) : w.heap.size ≤ gb197)); have GE197 := am ((by rw [hg]; exact (below_size (w := w) i_) : w.heap.size ≤ gb197)); replace HB := am (below_step (w := w) i_ hb); clear hb hbox hg; have hcz5 := bc4 BK197.out) | ((with_reducible refine gate_callee (f := 24) rfl ?_); refine gL (some 9) Try.func24 #[.agg #[.int .i64 a0_0, .int .i64 a0_1, .int .i64 a0_2, .slice A0_3 l0_3.length c0_3], .int .i64 1048576] rfl ?_; (with_reducible refine (laws_szStyle.calls k a0_0 a0_1 a0_2 _ _ l0_3 1048576 t198 _ ?side1 ?side2 A2.out).mono ?_); (case side1 => exact Kd.C_below HR0_3.out i_); (case side2 => exact HC0_3.out); rintro e w6 ⟨rfl, hb⟩; refine ⟨_, rfl, ?_⟩; replace BK197 := am (blk_below (g := gb197) (o := .cells #[.int .i64 a0_0, .int .i64 a0_1, .int .i64 a0_2, .slice A0_3 l0_3.length c0_3] 42 (0, 0)) i_ hb); replace HB := am (below_step (w := w) i_ hb); (try clear hb); (try clear hb2); (try clear hk); ((try clear hi))))
    go_ret
    exact ⟨by first | rfl | (simp [errW_none, errW_some] <;> rfl) | (simp [*, errW_none, errW_some] <;> rfl), i_⟩
  · rw [if_neg c3] at H
    have c3b0 : decide (t198 < 0) = false := decide_eq_false c3
    clear c3
    replace H := Option.bind_eq_some_iff.mp H
    obtain ⟨⟨t199, t200, t201, t202⟩, A70, H⟩ := H
    replace H : ((spec_StyleFault.f k t199 t200 t201 t202).bind fun t205 => ((laws_toStyle.f k a0_0 a0_1 a0_2 l0_3).bind fun bt206 => ((impl_StyleFault.f k bt206.1 bt206.2.1 bt206.2.2.1 bt206.2.2.2).bind fun t213 => (if t213 = t205 then ((laws_toStyle.f k a0_0 a0_1 a0_2 l0_3).bind fun bt214 => ((laws_eqStyle.f k bt206.1 bt206.2.1 bt206.2.2.1 bt206.2.2.2 bt214.1 bt214.2.1 bt214.2.2.1 bt214.2.2.2).bind fun t220 => (if t220 = true then (some true) else (none)))) else (none))))) = some r := H
    have A7 := am A70
    clear A70
    replace H := Option.bind_eq_some_iff.mp H
    obtain ⟨t205, A80, H⟩ := H
    replace H : ((laws_toStyle.f k a0_0 a0_1 a0_2 l0_3).bind fun bt206 => ((impl_StyleFault.f k bt206.1 bt206.2.1 bt206.2.2.1 bt206.2.2.2).bind fun t213 => (if t213 = t205 then ((laws_toStyle.f k a0_0 a0_1 a0_2 l0_3).bind fun bt214 => ((laws_eqStyle.f k bt206.1 bt206.2.1 bt206.2.2.1 bt206.2.2.2 bt214.1 bt214.2.1 bt214.2.2.1 bt214.2.2.2).bind fun t220 => (if t220 = true then (some true) else (none)))) else (none)))) = some r := H
    have A8 := am A80
    clear A80
    replace H := Option.bind_eq_some_iff.mp H
    obtain ⟨⟨t206, t207, t208, t209⟩, A90, H⟩ := H
    replace H : ((impl_StyleFault.f k t206 t207 t208 t209).bind fun t213 => (if t213 = t205 then ((laws_toStyle.f k a0_0 a0_1 a0_2 l0_3).bind fun bt214 => ((laws_eqStyle.f k t206 t207 t208 t209 bt214.1 bt214.2.1 bt214.2.2.1 bt214.2.2.2).bind fun t220 => (if t220 = true then (some true) else (none)))) else (none))) = some r := H
    have A9 := am A90
    clear A90
    replace H := Option.bind_eq_some_iff.mp H
    obtain ⟨t213, A100, H⟩ := H
    replace H : (if t213 = t205 then ((laws_toStyle.f k a0_0 a0_1 a0_2 l0_3).bind fun bt214 => ((laws_eqStyle.f k t206 t207 t208 t209 bt214.1 bt214.2.1 bt214.2.2.1 bt214.2.2.2).bind fun t220 => (if t220 = true then (some true) else (none)))) else (none)) = some r := H
    have A10 := am A100
    clear A100
    by_cases c11 : t213 = t205
    · rw [if_pos c11] at H
      have c11b0 : (t213 == t205) = true := beq_iff_eq.mpr c11
      have c11b1 : (t213 != t205) = false := bne_eq_false_iff_eq.mpr c11
      clear c11
      replace H := Option.bind_eq_some_iff.mp H
      obtain ⟨⟨t214, t215, t216, t217⟩, A120, H⟩ := H
      replace H : ((laws_eqStyle.f k t206 t207 t208 t209 t214 t215 t216 t217).bind fun t220 => (if t220 = true then (some true) else (none))) = some r := H
      have A12 := am A120
      clear A120
      replace H := Option.bind_eq_some_iff.mp H
      obtain ⟨t220, A130, H⟩ := H
      replace H : (if t220 = true then (some true) else (none)) = some r := H
      have A13 := am A130
      clear A130
      by_cases c14 : t220 = true
      · subst c14
        have H1 : (some true) = some r := by rw [if_pos rfl] at H; exact H
        clear H
        have H := H1
        clear H1
        obtain rfl := Option.some.inj H
        go_enter Try.func6, Try.ntmps6
        try go_wp2_with (first | ((with_reducible refine gate_dst (N := 1) rfl ?_); refine bX (N := 1) (cs := #[.int .i64 a0_0, .int .i64 a0_1, .int .i64 a0_2, .slice A0_3 l0_3.length c0_3]) (t := 42) ?_; intro gb197 hg w15 hbox hb; have BK197 := am (hbox); have GW197 := am ((by rw [hg]; exact (below_size (w := w) i_) : w.heap.size ≤ gb197)); have GE197 := am ((by rw [hg]; exact (below_size (w := w) i_) : w.heap.size ≤ gb197)); replace HB := am (below_step (w := w) i_ hb); clear hb hbox hg; have hcz16 := bc4 BK197.out) | ((with_reducible refine gate_callee (f := 24) rfl ?_); refine gL (some 9) Try.func24 #[.agg #[.int .i64 a0_0, .int .i64 a0_1, .int .i64 a0_2, .slice A0_3 l0_3.length c0_3], .int .i64 1048576] rfl ?_; (with_reducible refine (laws_szStyle.calls k a0_0 a0_1 a0_2 _ _ l0_3 1048576 t198 _ ?side1 ?side2 A2.out).mono ?_); (case side1 => exact Kd.C_below HR0_3.out i_); (case side2 => exact HC0_3.out); rintro e w17 ⟨rfl, hb⟩; refine ⟨_, rfl, ?_⟩; replace BK197 := am (blk_below (g := gb197) (o := .cells #[.int .i64 a0_0, .int .i64 a0_1, .int .i64 a0_2, .slice A0_3 l0_3.length c0_3] 42 (0, 0)) i_ hb); replace HB := am (below_step (w := w) i_ hb); (try clear hb); (try clear hb2); (try clear hk); (try clear hi); have hcz18 := bc4 BK197.out) | ((with_reducible refine gate_callee (f := 26) rfl ?_); refine gL (some 13) Try.func26 #[.agg #[.int .i64 a0_0, .int .i64 a0_1, .int .i64 a0_2, .slice A0_3 l0_3.length c0_3]] rfl ?_; (with_reducible refine (laws_toStyle.calls k a0_0 a0_1 a0_2 _ _ l0_3 t199 t200 t201 t202 _ ?side1 ?side2 A7.out).mono ?_); (case side1 => exact Kd.C_below HR0_3.out i_); (case side2 => exact HC0_3.out); rintro e w19 ⟨v203, rfl, ho0, hb⟩; refine ⟨_, rfl, ?_⟩; have HO204 := am (Kd.R_lower ho0 (below_size (w := w) i_)); replace BK197 := am (blk_below (g := gb197) (o := .cells #[.int .i64 a0_0, .int .i64 a0_1, .int .i64 a0_2, .slice A0_3 l0_3.length c0_3] 42 (0, 0)) i_ hb); replace HB := am (below_step (w := w) i_ hb); (try clear hb); (try clear hb2); (try clear hk); (try clear hi); (try clear ho0); obtain ⟨Ao20, co20, eo20⟩ := Kd.R_slice HO204.out; subst eo20) | ((with_reducible refine gate_callee (f := 25) rfl ?_); refine gL (some 14) Try.func25 #[.agg #[.int .i64 t199, .int .i64 t200, .int .i64 t201, .slice Ao20 t202.length co20]] rfl ?_; (with_reducible refine (spec_StyleFault.calls k t199 t200 t201 _ _ t202 t205 _ ?side1 ?side2 A8.out).mono ?_); (case side1 => repeat (first | exact (Kd.R_reads' HO204.out).2.2 | (with_reducible refine Kd.C_alloc ?_ _) | (with_reducible refine Kd.C_drewN ?_ _) | (with_reducible refine Kd.C_drew ?_))); (case side2 => exact (Kd.R_reads' HO204.out).2.1); rintro e w21 ⟨rfl, hb⟩; refine ⟨_, rfl, ?_⟩; replace HO204 := am (rB HO204.out i_ hb); replace BK197 := am (blk_below (g := gb197) (o := .cells #[.int .i64 a0_0, .int .i64 a0_1, .int .i64 a0_2, .slice A0_3 l0_3.length c0_3] 42 (0, 0)) i_ hb); replace HB := am (below_step (w := w) i_ hb); (try clear hb); (try clear hb2); (try clear hk); (try clear hi); have hcz22 := bc4 BK197.out) | ((with_reducible refine gate_callee (f := 26) rfl ?_); refine gL (some 16) Try.func26 #[.agg #[.int .i64 a0_0, .int .i64 a0_1, .int .i64 a0_2, .slice A0_3 l0_3.length c0_3]] rfl ?_; (with_reducible refine (laws_toStyle.calls k a0_0 a0_1 a0_2 _ _ l0_3 t206 t207 t208 t209 _ ?side1 ?side2 A9.out).mono ?_); (case side1 => exact Kd.C_below HR0_3.out i_); (case side2 => exact HC0_3.out); rintro e w23 ⟨v210, rfl, ho0, hb⟩; refine ⟨_, rfl, ?_⟩; have HO211 := am (Kd.R_lower (Kd.R_new' ho0 (Kd.R_lt (by (with_reducible repeat (first | apply Kd.R_alloc | apply Kd.R_drewN | apply Kd.R_drew)); exact HO204.out))) (below_size (w := w) i_)); replace HO204 := am (Kd.R_elder' (by (with_reducible repeat (first | apply Kd.R_alloc | apply Kd.R_drewN | apply Kd.R_drew)); exact HO204.out) (Kd.R_base ho0) hb); replace BK197 := am (blk_below (g := gb197) (o := .cells #[.int .i64 a0_0, .int .i64 a0_1, .int .i64 a0_2, .slice A0_3 l0_3.length c0_3] 42 (0, 0)) i_ hb); replace HB := am (below_step (w := w) i_ hb); (try clear hb); (try clear hb2); (try clear hk); (try clear hi); (try clear ho0)) | ((with_reducible refine gate_dst (N := 5) rfl ?_); refine bX (N := 5) (cs := #[.int .i64 0, .int .i64 0, .int .i64 0, .slice none 0 0]) (t := 45) ?_; intro gb212 hg w24 hbox hb; have BK212 := am (hbox); have GW212 := am ((by rw [hg]; exact (below_size (w := w) i_) : w.heap.size ≤ gb212)); have GE212 := am ((by rw [hg]; exact (below_size (w := w) i_) : w.heap.size ≤ gb212)); have NB197_212 := am ((by rw [hg]; exact Nat.ne_of_lt (blk_lt (g := gb197) (o := .cells #[.int .i64 a0_0, .int .i64 a0_1, .int .i64 a0_2, .slice A0_3 l0_3.length c0_3] 42 (0, 0)) i_) : gb197 ≠ gb212)); have NB212_197 := am ((by rw [hg]; exact Nat.ne_of_gt (blk_lt (g := gb197) (o := .cells #[.int .i64 a0_0, .int .i64 a0_1, .int .i64 a0_2, .slice A0_3 l0_3.length c0_3] 42 (0, 0)) i_) : gb212 ≠ gb197)); replace HO204 := am (rB HO204.out i_ hb); replace HO211 := am (rB HO211.out i_ hb); replace BK197 := am (blk_below (g := gb197) (o := .cells #[.int .i64 a0_0, .int .i64 a0_1, .int .i64 a0_2, .slice A0_3 l0_3.length c0_3] 42 (0, 0)) i_ hb); replace HB := am (below_step (w := w) i_ hb); clear hb hbox hg; have hnb25 := NB212_197.out; have hnc25 := NB197_212.out; have hcz26 := bc4 BK212.out; obtain ⟨Ao27, co27, eo27⟩ := Kd.R_slice HO211.out; subst eo27) | ((with_reducible refine gate_callee (f := 27) rfl ?_); refine gL (some 18) Try.func27 #[.agg #[.int .i64 t206, .int .i64 t207, .int .i64 t208, .slice Ao27 t209.length co27]] rfl ?_; (with_reducible refine (impl_StyleFault.calls k t206 t207 t208 _ _ t209 t213 _ ?side1 ?side2 A10.out).mono ?_); (case side1 => refine (Kd.R_reads' (e := 9) (base := w.heap.size) (ok := fun k_ => (True ∧ some k_ ≠ (.slice Ao20 t202.length co20 : Value).ownBlock)) (n := t209.length) (c := co27) ?_).2.2; exact (by (with_reducible repeat (first | apply Kd.R_alloc | apply Kd.R_drewN | apply Kd.R_drew)); exact (Kd.R_mono (Kd.R_far (p := ⟨gb212, 3, none⟩) (Kd.R_far (p := ⟨gb212, 2, none⟩) (Kd.R_far (p := ⟨gb212, 1, none⟩) (Kd.R_far (p := ⟨gb212, 0, none⟩) (Kd.R_types HO211.out BK212.out (by decide)) (fun _ hk => hk.2) (.int .i64 t206)) (fun _ hk => hk.2) (.int .i64 t207)) (fun _ hk => hk.2) (.int .i64 t208)) (fun _ hk => hk.2) (.slice Ao27 t209.length co27)) (fun _ h_ => h_.1)))); (case side2 => exact (Kd.R_reads' HO211.out).2.1); rintro e w28 ⟨rfl, hb⟩; refine ⟨_, rfl, ?_⟩; replace HO204 := am (Kd.R_below (by (with_reducible repeat (first | apply Kd.R_alloc | apply Kd.R_drewN | apply Kd.R_drew)); exact (Kd.R_mono (Kd.R_far (p := ⟨gb212, 3, none⟩) (Kd.R_far (p := ⟨gb212, 2, none⟩) (Kd.R_far (p := ⟨gb212, 1, none⟩) (Kd.R_far (p := ⟨gb212, 0, none⟩) (Kd.R_types HO204.out BK212.out (by decide)) (fun _ hk => hk.2) (.int .i64 t206)) (fun _ hk => hk.2) (.int .i64 t207)) (fun _ hk => hk.2) (.int .i64 t208)) (fun _ hk => hk.2) (.slice Ao27 t209.length co27)) (fun _ h_ => h_.1))) hb); replace HO211 := am (Kd.R_below (by (with_reducible repeat (first | apply Kd.R_alloc | apply Kd.R_drewN | apply Kd.R_drew)); exact (Kd.R_mono (Kd.R_far (p := ⟨gb212, 3, none⟩) (Kd.R_far (p := ⟨gb212, 2, none⟩) (Kd.R_far (p := ⟨gb212, 1, none⟩) (Kd.R_far (p := ⟨gb212, 0, none⟩) (Kd.R_types HO211.out BK212.out (by decide)) (fun _ hk => hk.2) (.int .i64 t206)) (fun _ hk => hk.2) (.int .i64 t207)) (fun _ hk => hk.2) (.int .i64 t208)) (fun _ hk => hk.2) (.slice Ao27 t209.length co27)) (fun _ h_ => h_.1))) hb); replace BK197 := am (blk_below (g := gb197) (o := .cells #[.int .i64 a0_0, .int .i64 a0_1, .int .i64 a0_2, .slice A0_3 l0_3.length c0_3] 42 (0, 0)) i_ hb); replace BK212 := am (blk_below (g := gb212) (o := .cells #[.int .i64 t206, .int .i64 t207, .int .i64 t208, .slice Ao27 t209.length co27] 45 (0, 0)) (by (with_reducible repeat (first | refine blk_drewN ?_ _ | refine blk_drew ?_ | refine blk_alloc ?_ _)); refine blk_put (cs := #[.int .i64 t206, .int .i64 t207, .int .i64 t208, .slice none 0 0]) ?_ 3 _ rfl; (with_reducible repeat (first | refine blk_drewN ?_ _ | refine blk_drew ?_ | refine blk_alloc ?_ _)); refine blk_put (cs := #[.int .i64 t206, .int .i64 t207, .int .i64 0, .slice none 0 0]) ?_ 2 _ rfl; (with_reducible repeat (first | refine blk_drewN ?_ _ | refine blk_drew ?_ | refine blk_alloc ?_ _)); refine blk_put (cs := #[.int .i64 t206, .int .i64 0, .int .i64 0, .slice none 0 0]) ?_ 1 _ rfl; (with_reducible repeat (first | refine blk_drewN ?_ _ | refine blk_drew ?_ | refine blk_alloc ?_ _)); refine blk_put (cs := #[.int .i64 0, .int .i64 0, .int .i64 0, .slice none 0 0]) ?_ 0 _ rfl; (with_reducible repeat (first | refine blk_drewN ?_ _ | refine blk_drew ?_ | refine blk_alloc ?_ _)); exact BK212.out) hb); replace HB := am (below_step (w := w) i_ hb); (try clear hb); (try clear hb2); (try clear hk); ((try clear hi))))
        have n0_ := am (Kd.R_drew HO204.out)
        have n1_ := am (Kd.R_drew HO211.out)
        have n2_ := am (blk_drew BK197.out)
        have n3_ := am (blk_drew BK212.out)
        have n4_ := am (below_drew1 HB.out)
        clear HO204
        clear HO211
        clear BK197
        clear BK212
        clear HB
        have HO204 := n0_
        have HO211 := n1_
        have BK197 := n2_
        have BK212 := n3_
        have HB := n4_
        clear n0_ n1_ n2_ n3_ n4_
        refine start_ (n := 5) (S := fun w' => w'.cell? ⟨gb212, 0, none⟩ = some (.int .i64 t206) ∧ w'.cell? ⟨gb212, 1, none⟩ = some (.int .i64 t207) ∧ w'.cell? ⟨gb212, 2, none⟩ = some (.int .i64 t208) ∧ w'.cell? ⟨gb212, 3, none⟩ = some (.slice Ao27 t209.length co27) ∧ w'.cell? ⟨gb197, 0, none⟩ = some (.int .i64 a0_0) ∧ w'.cell? ⟨gb197, 1, none⟩ = some (.int .i64 a0_1) ∧ w'.cell? ⟨gb197, 2, none⟩ = some (.int .i64 a0_2) ∧ w'.cell? ⟨gb197, 3, none⟩ = some (.slice A0_3 l0_3.length c0_3)) (ds := []) #[false, false, false, false, false] (by kernel_rfl) rfl rfl ⟨(blk_cell BK212.out 0).trans rfl, (blk_cell BK212.out 1).trans rfl, (blk_cell BK212.out 2).trans rfl, (blk_cell BK212.out 3).trans rfl, (blk_cell BK197.out 0).trans rfl, (blk_cell BK197.out 1).trans rfl, (blk_cell BK197.out 2).trans rfl, (blk_cell BK197.out 3).trans rfl⟩ (fun hHeld => ?_)
        generalize w28.drew = w29 at HO204 HO211 BK197 BK212 HB hHeld ⊢
        refine take_ (i := 0) (N := some 22) (v := ?_) (a' := ?_) #[true, false, false, false, false] rfl rfl (by kernel_rfl) (fun _ _ _ h => h) (Or.inl ⟨by rfl, ?_⟩) hHeld ?_ ?_
        rotate_left
        · rintro w' ⟨s0, s1, s2, s3, s4, s5, s6, s7⟩
          go_simp
          with_reducible rfl
        rotate_left
        · simp only [Act.put, List.setIfInBounds_toArray, List.set_cons_zero, List.set_cons_succ, i64_w, i32_w]
          rfl
        refine take_ (i := 1) (N := some 23) (v := ?_) (a' := ?_) #[true, true, false, false, false] rfl rfl (by kernel_rfl) (fun _ _ _ h => h) (Or.inl ⟨by rfl, ?_⟩) hHeld ?_ ?_
        rotate_left
        · rintro w' ⟨s0, s1, s2, s3, s4, s5, s6, s7⟩
          go_simp
          with_reducible rfl
        rotate_left
        · simp only [Act.put, List.setIfInBounds_toArray, List.set_cons_zero, List.set_cons_succ, i64_w, i32_w]
          rfl
        refine one_ (i := 2) (N := some 24) #[true, true, true, false, false] rfl rfl (by kernel_rfl) (by decide) (fun K hK => ?_)
        refine goes_ Try.func26 (by kernel_rfl) rfl #[.agg #[.int .i64 a0_0, .int .i64 a0_1, .int .i64 a0_2, .slice A0_3 l0_3.length c0_3]] (by rfl) rfl rfl (by (try simp only [List.map_toArray, List.map_cons, List.map_nil]); first | done | rfl | (simp only [List.length_drop, List.length_take]; rfl)) ?_
        with_reducible refine (laws_toStyle.calls k a0_0 a0_1 a0_2 _ _ l0_3 t214 t215 t216 t217 _ ?side1 ?side2 A12.out).mono ?_
        (case side1 => exact Kd.C_below HR0_3.out i_)
        (case side2 => exact HC0_3.out)
        rintro e w30 ⟨v218, rfl, ho0, hb⟩
        refine ⟨_, rfl, ?_⟩
        have n0_ := am (Kd.R_elder' (by (with_reducible repeat (first | apply Kd.R_alloc | apply Kd.R_drewN | apply Kd.R_drew)); exact HO204.out) (Kd.R_base ho0) hb)
        have n1_ := am (Kd.R_elder' (by (with_reducible repeat (first | apply Kd.R_alloc | apply Kd.R_drewN | apply Kd.R_drew)); exact HO211.out) (Kd.R_base ho0) hb)
        have n2_ := am (Kd.R_lower (Kd.R_new' (Kd.R_new' ho0 (Kd.R_lt (by (with_reducible repeat (first | apply Kd.R_alloc | apply Kd.R_drewN | apply Kd.R_drew)); exact HO204.out))) (Kd.R_lt (by (with_reducible repeat (first | apply Kd.R_alloc | apply Kd.R_drewN | apply Kd.R_drew)); exact HO211.out))) (below_size (w := w) i_))
        have n3_ := am (blk_below (g := gb197) (o := .cells #[.int .i64 a0_0, .int .i64 a0_1, .int .i64 a0_2, .slice A0_3 l0_3.length c0_3] 42 (0, 0)) i_ hb)
        have n4_ := am (blk_below (g := gb212) (o := .cells #[.int .i64 t206, .int .i64 t207, .int .i64 t208, .slice Ao27 t209.length co27] 45 (0, 0)) i_ hb)
        have n5_ := am (below_step (w := w) i_ hb)
        clear HO204
        clear HO211
        clear BK197
        clear BK212
        clear HB
        have HO204 := n0_
        have HO211 := n1_
        have HO219 := n2_
        have BK197 := n3_
        have BK212 := n4_
        have HB := n5_
        clear n0_ n1_ n2_ n3_ n4_ n5_
        ((try clear hb))
        ((try clear hb2))
        ((try clear hk))
        ((try clear hi))
        ((try clear ho0))
        obtain ⟨Ao31, co31, eo31⟩ := Kd.R_slice HO219.out
        (first | subst eo31 | (injection eo31 with f1_ f2_ f3_; have f4_ := f1_.symm; have f5_ := f3_.symm; clear f1_ f2_ f3_; subst f4_; subst f5_))
        refine hK.out _ _ ⟨(blk_cell BK212.out 0).trans rfl, (blk_cell BK212.out 1).trans rfl, (blk_cell BK212.out 2).trans rfl, (blk_cell BK212.out 3).trans rfl, (blk_cell BK197.out 0).trans rfl, (blk_cell BK197.out 1).trans rfl, (blk_cell BK197.out 2).trans rfl, (blk_cell BK197.out 3).trans rfl⟩ (fun hHeld => ?_)
        clear hK K
        refine norm_ (a' := ?_) ?_ ?_
        rotate_left
        · show Act.put _ (some 24) _ = _
          simp only [Act.put, List.setIfInBounds_toArray, List.set_cons_zero, List.set_cons_succ, i64_w, i32_w]
          rfl
        refine one_ (i := 3) (N := some 25) #[true, true, true, true, false] rfl rfl (by kernel_rfl) (by decide) (fun K hK => ?_)
        refine goes_ Try.func28 (by kernel_rfl) rfl #[.agg #[.int .i64 t206, .int .i64 t207, .int .i64 t208, .slice Ao27 t209.length co27], .agg #[.int .i64 t214, .int .i64 t215, .int .i64 t216, .slice Ao31 t217.length co31]] (by rfl) rfl rfl (by (try simp only [List.map_toArray, List.map_cons, List.map_nil]); first | done | rfl | (simp only [List.length_drop, List.length_take]; rfl)) ?_
        with_reducible refine (laws_eqStyle.calls k t206 t207 t208 _ _ t209 t214 t215 t216 _ _ t217 true _ ?side1 ?side2 ?side3 ?side4 A13.out).mono ?_
        (case side1 => repeat (first | exact (Kd.R_reads' HO211.out).2.2 | (with_reducible refine Kd.C_alloc ?_ _) | (with_reducible refine Kd.C_drewN ?_ _) | (with_reducible refine Kd.C_drew ?_)))
        (case side2 => exact (Kd.R_reads' HO211.out).2.1)
        (case side3 => repeat (first | exact (Kd.R_reads' HO219.out).2.2 | (with_reducible refine Kd.C_alloc ?_ _) | (with_reducible refine Kd.C_drewN ?_ _) | (with_reducible refine Kd.C_drew ?_)))
        (case side4 => exact (Kd.R_reads' HO219.out).2.1)
        rintro e w32 ⟨rfl, hb⟩
        refine ⟨_, rfl, ?_⟩
        have n0_ := am (rB HO204.out i_ hb)
        have n1_ := am (rB HO211.out i_ hb)
        have n2_ := am (rB HO219.out i_ hb)
        have n3_ := am (blk_below (g := gb197) (o := .cells #[.int .i64 a0_0, .int .i64 a0_1, .int .i64 a0_2, .slice A0_3 l0_3.length c0_3] 42 (0, 0)) i_ hb)
        have n4_ := am (blk_below (g := gb212) (o := .cells #[.int .i64 t206, .int .i64 t207, .int .i64 t208, .slice Ao27 t209.length co27] 45 (0, 0)) i_ hb)
        have n5_ := am (below_step (w := w) i_ hb)
        clear HO204
        clear HO211
        clear HO219
        clear BK197
        clear BK212
        clear HB
        have HO204 := n0_
        have HO211 := n1_
        have HO219 := n2_
        have BK197 := n3_
        have BK212 := n4_
        have HB := n5_
        clear n0_ n1_ n2_ n3_ n4_ n5_
        ((try clear hb))
        ((try clear hb2))
        ((try clear hk))
        ((try clear hi))
        refine hK.out _ _ ⟨(blk_cell BK212.out 0).trans rfl, (blk_cell BK212.out 1).trans rfl, (blk_cell BK212.out 2).trans rfl, (blk_cell BK212.out 3).trans rfl, (blk_cell BK197.out 0).trans rfl, (blk_cell BK197.out 1).trans rfl, (blk_cell BK197.out 2).trans rfl, (blk_cell BK197.out 3).trans rfl⟩ (fun hHeld => ?_)
        clear hK K
        refine norm_ (a' := ?_) ?_ ?_
        rotate_left
        · show Act.put _ (some 25) _ = _
          simp only [Act.put, List.setIfInBounds_toArray, List.set_cons_zero, List.set_cons_succ, i64_w, i32_w]
          rfl
        refine pure_ (i := 4) (N := some 26) (v := ?_) (a' := ?_) #[true, true, true, true, true] rfl rfl (by kernel_rfl) (fun _ _ _ h => h) (Or.inl ⟨by rfl, ?_⟩) ?_ ?_
        rotate_left
        · intro w'
          go_simp
          with_reducible rfl
        rotate_left
        · simp only [Act.put, List.setIfInBounds_toArray, List.set_cons_zero, List.set_cons_succ, i64_w, i32_w]
          rfl
        refine done_ (by kernel_rfl) ?_
        try go_wp2
        go_ret
        exact ⟨by first | rfl | (simp [errW_none, errW_some] <;> rfl) | (simp [*, errW_none, errW_some] <;> rfl), i_⟩
      · replace c14 := Bool.eq_false_iff.mpr c14
        subst c14
        have H1 : (none) = some r := by rw [if_neg (show ¬ (false = true) by decide)] at H; exact H
        clear H
        have H := H1
        clear H1
        exact absurd H (by simp)
    · rw [if_neg c11] at H
      exact absurd H (by simp)

/-! ### spec_l22Small: function 60 -/
def spec_l22Small.f (a0 : Int) : Option (Bool) := if a0 ≥ 97 then (some (decide (a0 ≤ 122))) else (some false)
set_option maxHeartbeats 8000000 in
set_option maxRecDepth 100000 in
theorem spec_l22Small.calls (a0 : Int) (r : Bool) (w : World) (h : spec_l22Small.f a0 = some r) :
    Calls Try.prog 60 #[.int .u8 a0] w fun e w' => e = .returned (.bool r) ∧ Drawn0 w w' := by
  have H : (if a0 ≥ 97 then (some (decide (a0 ≤ 122))) else (some false)) = some r := h
  clear h
  by_cases c2 : a0 ≥ 97
  · rw [if_pos c2] at H
    have c2b0 : decide (97 ≤ a0) = true := decide_eq_true c2
    clear c2
    obtain rfl := Option.some.inj H
    go_enter Try.func60, Try.ntmps60
    go_wp2
    go_ret
    exact ⟨by first | rfl | (simp; done) | (simp [*]; done), by repeat (first | exact Drawn0.refl _ | apply Drawn0.step)⟩
  · rw [if_neg c2] at H
    have c2b0 : decide (97 ≤ a0) = false := decide_eq_false c2
    clear c2
    obtain rfl := Option.some.inj H
    go_enter Try.func60, Try.ntmps60
    go_wp2
    go_ret
    exact ⟨by first | rfl | (simp; done) | (simp [*]; done), by repeat (first | exact Drawn0.refl _ | apply Drawn0.step)⟩

end Go.Proofs.Ytopbiepiceajnaa.H
