-- Written by xprint.py (wip/ of this repository): one Lean function and its proof for each Go function.
import Derived.Test.YtopbiepiceajnaaQx0
import Derived.Test.YtopbiepiceajnaaQx1
import Derived.Test.YtopbiepiceajnaaQx2
import Derived.Test.YtopbiepiceajnaaQx4
namespace Go.Proofs.Ytopbiepiceajnaa.Q
open Go.RowKit Go.Proofs.YtopbiepiceajnaaW.PrintWords Go.Proofs.YtopbiepiceajnaaW.PrintLast Go.Proofs.YtopbiepiceajnaaW.PrintMore
attribute [local go_sem] max2_int min2_int max_two min_two max_three min_three max_four min_four   -- for this text's walks alone
set_option linter.unusedVariables false
set_option linter.unusedSimpArgs false

/-! ### laws_FnExactTextAt: function 4 -/
def laws_FnExactTextAt.f (k : Nat) (a0_0 : ByteArray) (l0_1 : List (S96)) (a0_2 : Int) (a1 : Int) : Option (Bool) := (laws_szHistory.f k a0_0 l0_1 a0_2 1048576).bind fun t193 => (if t193 < 0 then (some true) else ((laws_toHistory.f k a0_0 l0_1 a0_2).bind fun bt194 => ((spec_TextAt.f k bt194.1 bt194.2.1 bt194.2.2 a1).bind fun t199 => ((laws_toHistory.f k a0_0 l0_1 a0_2).bind fun bt200 => ((impl_TextAt.f k bt200.1 bt200.2.1 bt200.2.2 a1).bind fun t206 => (if t206.toList = t199.toList then ((laws_toHistory.f k a0_0 l0_1 a0_2).bind fun bt207 => ((laws_eqHistory.f k bt200.1 bt200.2.1 bt200.2.2 bt207.1 bt207.2.1 bt207.2.2).bind fun t212 => (if t212 = true then (some true) else (none)))) else (none)))))))
theorem laws_FnExactTextAt.mono : ∀ a0 a1 a2 a3 k, LeO (laws_FnExactTextAt.f k a0 a1 a2 a3) (laws_FnExactTextAt.f (k + 1) a0 a1 a2 a3) := by
  intro a0 a1 a2 a3 k
  unfold laws_FnExactTextAt.f
  repeat' first
      | (with_reducible exact impl_TextAt.mono _ _ _ _ _)
      | (with_reducible exact laws_eqHistory.mono _ _ _ _ _ _ _)
      | (with_reducible exact laws_szHistory.mono _ _ _ _ _)
      | (with_reducible exact laws_toHistory.mono _ _ _ _)
      | (with_reducible exact spec_TextAt.mono _ _ _ _ _)
      | (with_reducible exact LeO.refl _)
      | (with_reducible exact LeO.none _)
      | (with_reducible refine LeO.ite ?_ ?_)
      | (with_reducible refine LeO.bind ?_ (fun _ => ?_))
      | exact impl_TextAt.mono _ _ _ _ _
      | exact laws_eqHistory.mono _ _ _ _ _ _ _
      | exact laws_szHistory.mono _ _ _ _ _
      | exact laws_toHistory.mono _ _ _ _
      | exact spec_TextAt.mono _ _ _ _ _
      | exact LeO.none _
      | refine LeO.ite ?_ ?_
      | refine LeO.bind ?_ (fun _ => ?_)
set_option maxHeartbeats 8000000 in
set_option maxRecDepth 100000 in
theorem laws_FnExactTextAt.calls (k : Nat) (a0_0 : ByteArray) (A0_1 : Option Addr) (c0_1 : Nat) (l0_1 : List (S96)) (a0_2 : Int) (a1 : Int) (r : Bool) (w : World) (hr0_1 : Kd.C k96 w A0_1 l0_1.length l0_1) (hc0_1 : l0_1.length ≤ c0_1) (h : laws_FnExactTextAt.f k a0_0 l0_1 a0_2 a1 = some r) :
    Calls Try.prog 4 #[.agg #[.string a0_0, .slice A0_1 l0_1.length c0_1, .int .i64 a0_2], .int .i64 a1] w fun e w' => e = .returned (.bool r) ∧ Below w.heap.size w w' := by
  have hu24 := Try.underlying24
  have hu29 := Try.underlying29
  have HR0_1 := am hr0_1
  have HC0_1 := am hc0_1
  clear hr0_1 hc0_1
  have HB := am (Below.refl w.heap.size w)
  have H : ((laws_szHistory.f k a0_0 l0_1 a0_2 1048576).bind fun t193 => (if t193 < 0 then (some true) else ((laws_toHistory.f k a0_0 l0_1 a0_2).bind fun bt194 => ((spec_TextAt.f k bt194.1 bt194.2.1 bt194.2.2 a1).bind fun t199 => ((laws_toHistory.f k a0_0 l0_1 a0_2).bind fun bt200 => ((impl_TextAt.f k bt200.1 bt200.2.1 bt200.2.2 a1).bind fun t206 => (if t206.toList = t199.toList then ((laws_toHistory.f k a0_0 l0_1 a0_2).bind fun bt207 => ((laws_eqHistory.f k bt200.1 bt200.2.1 bt200.2.2 bt207.1 bt207.2.1 bt207.2.2).bind fun t212 => (if t212 = true then (some true) else (none)))) else (none)))))))) = some r := h
  clear h
  replace H := Option.bind_eq_some_iff.mp H
  obtain ⟨t193, A30, H⟩ := H
  replace H : (if t193 < 0 then (some true) else ((laws_toHistory.f k a0_0 l0_1 a0_2).bind fun bt194 => ((spec_TextAt.f k bt194.1 bt194.2.1 bt194.2.2 a1).bind fun t199 => ((laws_toHistory.f k a0_0 l0_1 a0_2).bind fun bt200 => ((impl_TextAt.f k bt200.1 bt200.2.1 bt200.2.2 a1).bind fun t206 => (if t206.toList = t199.toList then ((laws_toHistory.f k a0_0 l0_1 a0_2).bind fun bt207 => ((laws_eqHistory.f k bt200.1 bt200.2.1 bt200.2.2 bt207.1 bt207.2.1 bt207.2.2).bind fun t212 => (if t212 = true then (some true) else (none)))) else (none))))))) = some r := H
  have A3 := am A30
  clear A30
  by_cases c4 : t193 < 0
  · rw [if_pos c4] at H
    have c4b0 : decide (t193 < 0) = true := decide_eq_true c4
    clear c4
    obtain rfl := Option.some.inj H
    go_enter Try.func4, Try.ntmps4
    go_wp2_with (first | ((with_reducible refine gate_dst (N := 2) rfl ?_); refine bX (N := 2) (cs := #[.string a0_0, .slice A0_1 l0_1.length c0_1, .int .i64 a0_2]) (t := 24) ?_; intro gb192 hg w5 hbox hb; have BK192 := am (hbox); have GW192 := am ((by rw [hg]; exact (below_size (w := w) i_) : w.heap.size ≤ gb192)); have GE192 := am ((by rw [hg]; exact (below_size (w := w) i_) : w.heap.size ≤ gb192)); replace HB := am (below_step (w := w) i_ hb); clear hb hbox hg; have hcz6 := bc3 BK192.out) | ((with_reducible refine gate_callee (f := 12) rfl ?_); refine gL (some 11) Try.func12 #[.agg #[.string a0_0, .slice A0_1 l0_1.length c0_1, .int .i64 a0_2], .int .i64 1048576] rfl ?_; (with_reducible refine (laws_szHistory.calls k a0_0 _ _ l0_1 a0_2 1048576 t193 _ ?side1 ?side2 A3.out).mono ?_); (case side1 => exact Kd.C_below HR0_1.out i_); (case side2 => exact HC0_1.out); rintro e w7 ⟨rfl, hb⟩; refine ⟨_, rfl, ?_⟩; replace BK192 := am (blk_below (g := gb192) (o := .cells #[.string a0_0, .slice A0_1 l0_1.length c0_1, .int .i64 a0_2] 24 (0, 0)) i_ hb); replace HB := am (below_step (w := w) i_ hb); (try clear hb); (try clear hb2); (try clear hk); ((try clear hi))))
    go_ret
    exact ⟨by first | rfl | (simp [errW_none, errW_some] <;> rfl) | (simp [*, errW_none, errW_some] <;> rfl), i_⟩
  · rw [if_neg c4] at H
    have c4b0 : decide (t193 < 0) = false := decide_eq_false c4
    clear c4
    replace H := Option.bind_eq_some_iff.mp H
    obtain ⟨⟨t194, t195, t198⟩, A80, H⟩ := H
    replace H : ((spec_TextAt.f k t194 t195 t198 a1).bind fun t199 => ((laws_toHistory.f k a0_0 l0_1 a0_2).bind fun bt200 => ((impl_TextAt.f k bt200.1 bt200.2.1 bt200.2.2 a1).bind fun t206 => (if t206.toList = t199.toList then ((laws_toHistory.f k a0_0 l0_1 a0_2).bind fun bt207 => ((laws_eqHistory.f k bt200.1 bt200.2.1 bt200.2.2 bt207.1 bt207.2.1 bt207.2.2).bind fun t212 => (if t212 = true then (some true) else (none)))) else (none))))) = some r := H
    have A8 := am A80
    clear A80
    replace H := Option.bind_eq_some_iff.mp H
    obtain ⟨t199, A90, H⟩ := H
    replace H : ((laws_toHistory.f k a0_0 l0_1 a0_2).bind fun bt200 => ((impl_TextAt.f k bt200.1 bt200.2.1 bt200.2.2 a1).bind fun t206 => (if t206.toList = t199.toList then ((laws_toHistory.f k a0_0 l0_1 a0_2).bind fun bt207 => ((laws_eqHistory.f k bt200.1 bt200.2.1 bt200.2.2 bt207.1 bt207.2.1 bt207.2.2).bind fun t212 => (if t212 = true then (some true) else (none)))) else (none)))) = some r := H
    have A9 := am A90
    clear A90
    replace H := Option.bind_eq_some_iff.mp H
    obtain ⟨⟨t200, t201, t204⟩, A100, H⟩ := H
    replace H : ((impl_TextAt.f k t200 t201 t204 a1).bind fun t206 => (if t206.toList = t199.toList then ((laws_toHistory.f k a0_0 l0_1 a0_2).bind fun bt207 => ((laws_eqHistory.f k t200 t201 t204 bt207.1 bt207.2.1 bt207.2.2).bind fun t212 => (if t212 = true then (some true) else (none)))) else (none))) = some r := H
    have A10 := am A100
    clear A100
    replace H := Option.bind_eq_some_iff.mp H
    obtain ⟨t206, A110, H⟩ := H
    replace H : (if t206.toList = t199.toList then ((laws_toHistory.f k a0_0 l0_1 a0_2).bind fun bt207 => ((laws_eqHistory.f k t200 t201 t204 bt207.1 bt207.2.1 bt207.2.2).bind fun t212 => (if t212 = true then (some true) else (none)))) else (none)) = some r := H
    have A11 := am A110
    clear A110
    by_cases c12 : t206.toList = t199.toList
    · rw [if_pos c12] at H
      have c12b0 : (t206.toList == t199.toList) = true := beq_iff_eq.mpr c12
      have c12b1 : (t206.toList != t199.toList) = false := bne_eq_false_iff_eq.mpr c12
      clear c12
      replace H := Option.bind_eq_some_iff.mp H
      obtain ⟨⟨t207, t208, t211⟩, A130, H⟩ := H
      replace H : ((laws_eqHistory.f k t200 t201 t204 t207 t208 t211).bind fun t212 => (if t212 = true then (some true) else (none))) = some r := H
      have A13 := am A130
      clear A130
      replace H := Option.bind_eq_some_iff.mp H
      obtain ⟨t212, A140, H⟩ := H
      replace H : (if t212 = true then (some true) else (none)) = some r := H
      have A14 := am A140
      clear A140
      by_cases c15 : t212 = true
      · subst c15
        have H1 : (some true) = some r := by rw [if_pos rfl] at H; exact H
        clear H
        have H := H1
        clear H1
        obtain rfl := Option.some.inj H
        go_enter Try.func4, Try.ntmps4
        try go_wp2_with (first | ((with_reducible refine gate_dst (N := 2) rfl ?_); refine bX (N := 2) (cs := #[.string a0_0, .slice A0_1 l0_1.length c0_1, .int .i64 a0_2]) (t := 24) ?_; intro gb192 hg w16 hbox hb; have BK192 := am (hbox); have GW192 := am ((by rw [hg]; exact (below_size (w := w) i_) : w.heap.size ≤ gb192)); have GE192 := am ((by rw [hg]; exact (below_size (w := w) i_) : w.heap.size ≤ gb192)); replace HB := am (below_step (w := w) i_ hb); clear hb hbox hg; have hcz17 := bc3 BK192.out) | ((with_reducible refine gate_callee (f := 12) rfl ?_); refine gL (some 11) Try.func12 #[.agg #[.string a0_0, .slice A0_1 l0_1.length c0_1, .int .i64 a0_2], .int .i64 1048576] rfl ?_; (with_reducible refine (laws_szHistory.calls k a0_0 _ _ l0_1 a0_2 1048576 t193 _ ?side1 ?side2 A3.out).mono ?_); (case side1 => exact Kd.C_below HR0_1.out i_); (case side2 => exact HC0_1.out); rintro e w18 ⟨rfl, hb⟩; refine ⟨_, rfl, ?_⟩; replace BK192 := am (blk_below (g := gb192) (o := .cells #[.string a0_0, .slice A0_1 l0_1.length c0_1, .int .i64 a0_2] 24 (0, 0)) i_ hb); replace HB := am (below_step (w := w) i_ hb); (try clear hb); (try clear hb2); (try clear hk); (try clear hi); have hcz19 := bc3 BK192.out) | ((with_reducible refine gate_callee (f := 14) rfl ?_); refine gL (some 15) Try.func14 #[.agg #[.string a0_0, .slice A0_1 l0_1.length c0_1, .int .i64 a0_2]] rfl ?_; (with_reducible refine (laws_toHistory.calls k a0_0 _ _ l0_1 a0_2 t194 t195 t198 _ ?side1 ?side2 A8.out).mono ?_); (case side1 => exact Kd.C_below HR0_1.out i_); (case side2 => exact HC0_1.out); rintro e w20 ⟨v196, rfl, ho0, hb⟩; refine ⟨_, rfl, ?_⟩; have HO197 := am (Kd.R_lower ho0 (below_size (w := w) i_)); replace BK192 := am (blk_below (g := gb192) (o := .cells #[.string a0_0, .slice A0_1 l0_1.length c0_1, .int .i64 a0_2] 24 (0, 0)) i_ hb); replace HB := am (below_step (w := w) i_ hb); (try clear hb); (try clear hb2); (try clear hk); (try clear hi); (try clear ho0); obtain ⟨Ao21, co21, eo21⟩ := Kd.R_slice HO197.out; subst eo21) | ((with_reducible refine gate_callee (f := 17) rfl ?_); refine gL (some 17) Try.func17 #[.agg #[.string t194, .slice Ao21 t195.length co21, .int .i64 t198], .int .i64 a1] rfl ?_; (with_reducible refine (spec_TextAt.calls k t194 _ _ t195 t198 a1 t199 _ ?side1 ?side2 A9.out).mono ?_); (case side1 => repeat (first | exact (Kd.R_reads' HO197.out).2.2 | (with_reducible refine Kd.C_alloc ?_ _) | (with_reducible refine Kd.C_drewN ?_ _) | (with_reducible refine Kd.C_drew ?_))); (case side2 => exact (Kd.R_reads' HO197.out).2.1); rintro e w22 ⟨rfl, hb⟩; refine ⟨_, rfl, ?_⟩; replace HO197 := am (rB HO197.out i_ hb); replace BK192 := am (blk_below (g := gb192) (o := .cells #[.string a0_0, .slice A0_1 l0_1.length c0_1, .int .i64 a0_2] 24 (0, 0)) i_ hb); replace HB := am (below_step (w := w) i_ hb); (try clear hb); (try clear hb2); (try clear hk); (try clear hi); have hcz23 := bc3 BK192.out) | ((with_reducible refine gate_callee (f := 14) rfl ?_); refine gL (some 19) Try.func14 #[.agg #[.string a0_0, .slice A0_1 l0_1.length c0_1, .int .i64 a0_2]] rfl ?_; (with_reducible refine (laws_toHistory.calls k a0_0 _ _ l0_1 a0_2 t200 t201 t204 _ ?side1 ?side2 A10.out).mono ?_); (case side1 => exact Kd.C_below HR0_1.out i_); (case side2 => exact HC0_1.out); rintro e w24 ⟨v202, rfl, ho0, hb⟩; refine ⟨_, rfl, ?_⟩; have HO203 := am (Kd.R_lower (Kd.R_new' ho0 (Kd.R_lt (by (with_reducible repeat (first | apply Kd.R_alloc | apply Kd.R_drewN | apply Kd.R_drew)); exact HO197.out))) (below_size (w := w) i_)); replace HO197 := am (Kd.R_elder' (by (with_reducible repeat (first | apply Kd.R_alloc | apply Kd.R_drewN | apply Kd.R_drew)); exact HO197.out) (Kd.R_base ho0) hb); replace BK192 := am (blk_below (g := gb192) (o := .cells #[.string a0_0, .slice A0_1 l0_1.length c0_1, .int .i64 a0_2] 24 (0, 0)) i_ hb); replace HB := am (below_step (w := w) i_ hb); (try clear hb); (try clear hb2); (try clear hk); (try clear hi); (try clear ho0)) | ((with_reducible refine gate_dst (N := 7) rfl ?_); refine bX (N := 7) (cs := #[.string (⟨#[]⟩ : ByteArray), .slice none 0 0, .int .i64 0]) (t := 29) ?_; intro gb205 hg w25 hbox hb; have BK205 := am (hbox); have GW205 := am ((by rw [hg]; exact (below_size (w := w) i_) : w.heap.size ≤ gb205)); have GE205 := am ((by rw [hg]; exact (below_size (w := w) i_) : w.heap.size ≤ gb205)); have NB192_205 := am ((by rw [hg]; exact Nat.ne_of_lt (blk_lt (g := gb192) (o := .cells #[.string a0_0, .slice A0_1 l0_1.length c0_1, .int .i64 a0_2] 24 (0, 0)) i_) : gb192 ≠ gb205)); have NB205_192 := am ((by rw [hg]; exact Nat.ne_of_gt (blk_lt (g := gb192) (o := .cells #[.string a0_0, .slice A0_1 l0_1.length c0_1, .int .i64 a0_2] 24 (0, 0)) i_) : gb205 ≠ gb192)); replace HO197 := am (rB HO197.out i_ hb); replace HO203 := am (rB HO203.out i_ hb); replace BK192 := am (blk_below (g := gb192) (o := .cells #[.string a0_0, .slice A0_1 l0_1.length c0_1, .int .i64 a0_2] 24 (0, 0)) i_ hb); replace HB := am (below_step (w := w) i_ hb); clear hb hbox hg; have hnb26 := NB205_192.out; have hnc26 := NB192_205.out; have hcz27 := bc3 BK205.out; obtain ⟨Ao28, co28, eo28⟩ := Kd.R_slice HO203.out; subst eo28) | ((with_reducible refine gate_callee (f := 18) rfl ?_); refine gL (some 22) Try.func18 #[.agg #[.string t200, .slice Ao28 t201.length co28, .int .i64 t204], .int .i64 a1] rfl ?_; (with_reducible refine (impl_TextAt.calls k t200 _ _ t201 t204 a1 t206 _ ?side1 ?side2 A11.out).mono ?_); (case side1 => refine (Kd.R_reads' (e := 68) (base := w.heap.size) (ok := fun k_ => (True ∧ some k_ ≠ (.slice Ao21 t195.length co21 : Value).ownBlock)) (n := t201.length) (c := co28) ?_).2.2; exact (by (with_reducible repeat (first | apply Kd.R_alloc | apply Kd.R_drewN | apply Kd.R_drew)); exact (Kd.R_mono (Kd.R_far (p := ⟨gb205, 2, none⟩) (Kd.R_far (p := ⟨gb205, 1, none⟩) (Kd.R_far (p := ⟨gb205, 0, none⟩) (Kd.R_types HO203.out BK205.out (by decide)) (fun _ hk => hk.2) (.string t200)) (fun _ hk => hk.2) (.slice Ao28 t201.length co28)) (fun _ hk => hk.2) (.int .i64 t204)) (fun _ h_ => h_.1)))); (case side2 => exact (Kd.R_reads' HO203.out).2.1); rintro e w29 ⟨rfl, hb⟩; refine ⟨_, rfl, ?_⟩; replace HO197 := am (Kd.R_below (by (with_reducible repeat (first | apply Kd.R_alloc | apply Kd.R_drewN | apply Kd.R_drew)); exact (Kd.R_mono (Kd.R_far (p := ⟨gb205, 2, none⟩) (Kd.R_far (p := ⟨gb205, 1, none⟩) (Kd.R_far (p := ⟨gb205, 0, none⟩) (Kd.R_types HO197.out BK205.out (by decide)) (fun _ hk => hk.2) (.string t200)) (fun _ hk => hk.2) (.slice Ao28 t201.length co28)) (fun _ hk => hk.2) (.int .i64 t204)) (fun _ h_ => h_.1))) hb); replace HO203 := am (Kd.R_below (by (with_reducible repeat (first | apply Kd.R_alloc | apply Kd.R_drewN | apply Kd.R_drew)); exact (Kd.R_mono (Kd.R_far (p := ⟨gb205, 2, none⟩) (Kd.R_far (p := ⟨gb205, 1, none⟩) (Kd.R_far (p := ⟨gb205, 0, none⟩) (Kd.R_types HO203.out BK205.out (by decide)) (fun _ hk => hk.2) (.string t200)) (fun _ hk => hk.2) (.slice Ao28 t201.length co28)) (fun _ hk => hk.2) (.int .i64 t204)) (fun _ h_ => h_.1))) hb); replace BK192 := am (blk_below (g := gb192) (o := .cells #[.string a0_0, .slice A0_1 l0_1.length c0_1, .int .i64 a0_2] 24 (0, 0)) i_ hb); replace BK205 := am (blk_below (g := gb205) (o := .cells #[.string t200, .slice Ao28 t201.length co28, .int .i64 t204] 29 (0, 0)) (by (with_reducible repeat (first | refine blk_drewN ?_ _ | refine blk_drew ?_ | refine blk_alloc ?_ _)); refine blk_put (cs := #[.string t200, .slice Ao28 t201.length co28, .int .i64 0]) ?_ 2 _ rfl; (with_reducible repeat (first | refine blk_drewN ?_ _ | refine blk_drew ?_ | refine blk_alloc ?_ _)); refine blk_put (cs := #[.string t200, .slice none 0 0, .int .i64 0]) ?_ 1 _ rfl; (with_reducible repeat (first | refine blk_drewN ?_ _ | refine blk_drew ?_ | refine blk_alloc ?_ _)); refine blk_put (cs := #[.string (⟨#[]⟩ : ByteArray), .slice none 0 0, .int .i64 0]) ?_ 0 _ rfl; (with_reducible repeat (first | refine blk_drewN ?_ _ | refine blk_drew ?_ | refine blk_alloc ?_ _)); exact BK205.out) hb); replace HB := am (below_step (w := w) i_ hb); (try clear hb); (try clear hb2); (try clear hk); ((try clear hi))))
        have n0_ := am (Kd.R_drew HO197.out)
        have n1_ := am (Kd.R_drew HO203.out)
        have n2_ := am (blk_drew BK192.out)
        have n3_ := am (blk_drew BK205.out)
        have n4_ := am (below_drew1 HB.out)
        clear HO197
        clear HO203
        clear BK192
        clear BK205
        clear HB
        have HO197 := n0_
        have HO203 := n1_
        have BK192 := n2_
        have BK205 := n3_
        have HB := n4_
        clear n0_ n1_ n2_ n3_ n4_
        refine start_ (n := 5) (S := fun w' => w'.cell? ⟨gb205, 0, none⟩ = some (.string t200) ∧ w'.cell? ⟨gb205, 1, none⟩ = some (.slice Ao28 t201.length co28) ∧ w'.cell? ⟨gb205, 2, none⟩ = some (.int .i64 t204) ∧ w'.cell? ⟨gb192, 0, none⟩ = some (.string a0_0) ∧ w'.cell? ⟨gb192, 1, none⟩ = some (.slice A0_1 l0_1.length c0_1) ∧ w'.cell? ⟨gb192, 2, none⟩ = some (.int .i64 a0_2)) (ds := []) #[false, false, false, false, false] (by kernel_rfl) rfl rfl ⟨(blk_cell BK205.out 0).trans rfl, (blk_cell BK205.out 1).trans rfl, (blk_cell BK205.out 2).trans rfl, (blk_cell BK192.out 0).trans rfl, (blk_cell BK192.out 1).trans rfl, (blk_cell BK192.out 2).trans rfl⟩ (fun hHeld => ?_)
        generalize w29.drew = w30 at HO197 HO203 BK192 BK205 HB hHeld ⊢
        refine take_ (i := 0) (N := some 26) (v := ?_) (a' := ?_) #[true, false, false, false, false] rfl rfl (by kernel_rfl) (fun _ _ _ h => h) (Or.inl ⟨by rfl, ?_⟩) hHeld ?_ ?_
        rotate_left
        · rintro w' ⟨s0, s1, s2, s3, s4, s5⟩
          go_simp
          with_reducible rfl
        rotate_left
        · simp only [Act.put, List.setIfInBounds_toArray, List.set_cons_zero, List.set_cons_succ, i64_w, i32_w]
          rfl
        refine take_ (i := 1) (N := some 27) (v := ?_) (a' := ?_) #[true, true, false, false, false] rfl rfl (by kernel_rfl) (fun _ _ _ h => h) (Or.inl ⟨by rfl, ?_⟩) hHeld ?_ ?_
        rotate_left
        · rintro w' ⟨s0, s1, s2, s3, s4, s5⟩
          go_simp
          with_reducible rfl
        rotate_left
        · simp only [Act.put, List.setIfInBounds_toArray, List.set_cons_zero, List.set_cons_succ, i64_w, i32_w]
          rfl
        refine one_ (i := 2) (N := some 28) #[true, true, true, false, false] rfl rfl (by kernel_rfl) (by decide) (fun K hK => ?_)
        refine goes_ Try.func14 (by kernel_rfl) rfl #[.agg #[.string a0_0, .slice A0_1 l0_1.length c0_1, .int .i64 a0_2]] (by rfl) rfl rfl (by (try simp only [List.map_toArray, List.map_cons, List.map_nil]); first | done | rfl | (simp only [List.length_drop, List.length_take]; rfl)) ?_
        with_reducible refine (laws_toHistory.calls k a0_0 _ _ l0_1 a0_2 t207 t208 t211 _ ?side1 ?side2 A13.out).mono ?_
        (case side1 => exact Kd.C_below HR0_1.out i_)
        (case side2 => exact HC0_1.out)
        rintro e w31 ⟨v209, rfl, ho0, hb⟩
        refine ⟨_, rfl, ?_⟩
        have n0_ := am (Kd.R_elder' (by (with_reducible repeat (first | apply Kd.R_alloc | apply Kd.R_drewN | apply Kd.R_drew)); exact HO197.out) (Kd.R_base ho0) hb)
        have n1_ := am (Kd.R_elder' (by (with_reducible repeat (first | apply Kd.R_alloc | apply Kd.R_drewN | apply Kd.R_drew)); exact HO203.out) (Kd.R_base ho0) hb)
        have n2_ := am (Kd.R_lower (Kd.R_new' (Kd.R_new' ho0 (Kd.R_lt (by (with_reducible repeat (first | apply Kd.R_alloc | apply Kd.R_drewN | apply Kd.R_drew)); exact HO197.out))) (Kd.R_lt (by (with_reducible repeat (first | apply Kd.R_alloc | apply Kd.R_drewN | apply Kd.R_drew)); exact HO203.out))) (below_size (w := w) i_))
        have n3_ := am (blk_below (g := gb192) (o := .cells #[.string a0_0, .slice A0_1 l0_1.length c0_1, .int .i64 a0_2] 24 (0, 0)) i_ hb)
        have n4_ := am (blk_below (g := gb205) (o := .cells #[.string t200, .slice Ao28 t201.length co28, .int .i64 t204] 29 (0, 0)) i_ hb)
        have n5_ := am (below_step (w := w) i_ hb)
        clear HO197
        clear HO203
        clear BK192
        clear BK205
        clear HB
        have HO197 := n0_
        have HO203 := n1_
        have HO210 := n2_
        have BK192 := n3_
        have BK205 := n4_
        have HB := n5_
        clear n0_ n1_ n2_ n3_ n4_ n5_
        ((try clear hb))
        ((try clear hb2))
        ((try clear hk))
        ((try clear hi))
        ((try clear ho0))
        obtain ⟨Ao32, co32, eo32⟩ := Kd.R_slice HO210.out
        (first | subst eo32 | (injection eo32 with f1_ f2_ f3_; have f4_ := f1_.symm; have f5_ := f3_.symm; clear f1_ f2_ f3_; subst f4_; subst f5_))
        refine hK.out _ _ ⟨(blk_cell BK205.out 0).trans rfl, (blk_cell BK205.out 1).trans rfl, (blk_cell BK205.out 2).trans rfl, (blk_cell BK192.out 0).trans rfl, (blk_cell BK192.out 1).trans rfl, (blk_cell BK192.out 2).trans rfl⟩ (fun hHeld => ?_)
        clear hK K
        refine norm_ (a' := ?_) ?_ ?_
        rotate_left
        · show Act.put _ (some 28) _ = _
          simp only [Act.put, List.setIfInBounds_toArray, List.set_cons_zero, List.set_cons_succ, i64_w, i32_w]
          rfl
        refine one_ (i := 3) (N := some 29) #[true, true, true, true, false] rfl rfl (by kernel_rfl) (by decide) (fun K hK => ?_)
        refine goes_ Try.func16 (by kernel_rfl) rfl #[.agg #[.string t200, .slice Ao28 t201.length co28, .int .i64 t204], .agg #[.string t207, .slice Ao32 t208.length co32, .int .i64 t211]] (by rfl) rfl rfl (by (try simp only [List.map_toArray, List.map_cons, List.map_nil]); first | done | rfl | (simp only [List.length_drop, List.length_take]; rfl)) ?_
        with_reducible refine (laws_eqHistory.calls k t200 _ _ t201 t204 t207 _ _ t208 t211 true _ ?side1 ?side2 ?side3 ?side4 A14.out).mono ?_
        (case side1 => repeat (first | exact (Kd.R_reads' HO203.out).2.2 | (with_reducible refine Kd.C_alloc ?_ _) | (with_reducible refine Kd.C_drewN ?_ _) | (with_reducible refine Kd.C_drew ?_)))
        (case side2 => exact (Kd.R_reads' HO203.out).2.1)
        (case side3 => repeat (first | exact (Kd.R_reads' HO210.out).2.2 | (with_reducible refine Kd.C_alloc ?_ _) | (with_reducible refine Kd.C_drewN ?_ _) | (with_reducible refine Kd.C_drew ?_)))
        (case side4 => exact (Kd.R_reads' HO210.out).2.1)
        rintro e w33 ⟨rfl, hb⟩
        refine ⟨_, rfl, ?_⟩
        have n0_ := am (rB HO197.out i_ hb)
        have n1_ := am (rB HO203.out i_ hb)
        have n2_ := am (rB HO210.out i_ hb)
        have n3_ := am (blk_below (g := gb192) (o := .cells #[.string a0_0, .slice A0_1 l0_1.length c0_1, .int .i64 a0_2] 24 (0, 0)) i_ hb)
        have n4_ := am (blk_below (g := gb205) (o := .cells #[.string t200, .slice Ao28 t201.length co28, .int .i64 t204] 29 (0, 0)) i_ hb)
        have n5_ := am (below_step (w := w) i_ hb)
        clear HO197
        clear HO203
        clear HO210
        clear BK192
        clear BK205
        clear HB
        have HO197 := n0_
        have HO203 := n1_
        have HO210 := n2_
        have BK192 := n3_
        have BK205 := n4_
        have HB := n5_
        clear n0_ n1_ n2_ n3_ n4_ n5_
        ((try clear hb))
        ((try clear hb2))
        ((try clear hk))
        ((try clear hi))
        refine hK.out _ _ ⟨(blk_cell BK205.out 0).trans rfl, (blk_cell BK205.out 1).trans rfl, (blk_cell BK205.out 2).trans rfl, (blk_cell BK192.out 0).trans rfl, (blk_cell BK192.out 1).trans rfl, (blk_cell BK192.out 2).trans rfl⟩ (fun hHeld => ?_)
        clear hK K
        refine norm_ (a' := ?_) ?_ ?_
        rotate_left
        · show Act.put _ (some 29) _ = _
          simp only [Act.put, List.setIfInBounds_toArray, List.set_cons_zero, List.set_cons_succ, i64_w, i32_w]
          rfl
        refine pure_ (i := 4) (N := some 30) (v := ?_) (a' := ?_) #[true, true, true, true, true] rfl rfl (by kernel_rfl) (fun _ _ _ h => h) (Or.inl ⟨by rfl, ?_⟩) ?_ ?_
        rotate_left
        · intro w'
          go_simp
          with_reducible rfl
        rotate_left
        · simp only [Act.put, List.setIfInBounds_toArray, List.set_cons_zero, List.set_cons_succ, i64_w, i32_w]
          rfl
        refine done_ (by kernel_rfl) ?_
        try go_wp2
        go_ret
        exact ⟨by first | rfl | (simp [errW_none, errW_some] <;> rfl) | (simp [*, errW_none, errW_some] <;> rfl), i_⟩
      · replace c15 := Bool.eq_false_iff.mpr c15
        subst c15
        have H1 : (none) = some r := by rw [if_neg (show ¬ (false = true) by decide)] at H; exact H
        clear H
        have H := H1
        clear H1
        exact absurd H (by simp)
    · rw [if_neg c12] at H
      exact absurd H (by simp)

/-! ### spec_l21Next: function 84 -/
def spec_l21Next.f (a0 : Int) (a1 : Int) : Option (Int) := if a1 < 0 then (some (wrap64 (a0 - 1))) else (some a0)
set_option maxHeartbeats 8000000 in
set_option maxRecDepth 100000 in
theorem spec_l21Next.calls (a0 : Int) (a1 : Int) (r : Int) (w : World) (h : spec_l21Next.f a0 a1 = some r) :
    Calls Try.prog 84 #[.int .i64 a0, .int .i64 a1] w fun e w' => e = .returned (.int .i64 r) ∧ Drawn0 w w' := by
  have H : (if a1 < 0 then (some (wrap64 (a0 - 1))) else (some a0)) = some r := h
  clear h
  by_cases c3 : a1 < 0
  · rw [if_pos c3] at H
    have c3b0 : decide (a1 < 0) = true := decide_eq_true c3
    clear c3
    obtain rfl := Option.some.inj H
    go_enter Try.func84, Try.ntmps84
    go_wp2
    go_ret
    exact ⟨by first | rfl | (simp; done) | (simp [*]; done), by repeat (first | exact Drawn0.refl _ | apply Drawn0.step)⟩
  · rw [if_neg c3] at H
    have c3b0 : decide (a1 < 0) = false := decide_eq_false c3
    clear c3
    obtain rfl := Option.some.inj H
    go_enter Try.func84, Try.ntmps84
    go_wp2
    go_ret
    exact ⟨by first | rfl | (simp; done) | (simp [*]; done), by repeat (first | exact Drawn0.refl _ | apply Drawn0.step)⟩

/-! ### spec_l21Move: function 77 -/
mutual
def spec_l21Move.j0 : Nat → Int → Int → Bool → ByteArray → List (S68) → Int → Option (ByteArray × (List (S68)) × Int × Bool)
  | 0, _, _, _, _, _, _ => none
  | k + 1, x1, x6, x25, x214000, x214001, x214002 => if x25 = true then (some (x214000, x214001, x214002, false)) else (if 0 ≤ x6 then (if x6 < (x214001.length : Int) then (spec_l21Move.l0 k x1 ((rd_T68 x214001 x6).f3) x214000 x214001 (wrap64 (x214002 + x1))) else (none)) else (none))
def spec_l21Move.l0 : Nat → Int → Int → ByteArray → List (S68) → Int → Option (ByteArray × (List (S68)) × Int × Bool)
  | 0, _, _, _, _, _ => none
  | k + 1, x1, x7, x214000, x214001, x214002 => if x7 > 0 then ((spec_l21Next.f x214002 x1).bind fun t223 => (if t223 < 0 then (some (x214000, x214001, x214002, true)) else (if t223 ≥ (x214001.length : Int) then (some (x214000, x214001, x214002, true)) else (if 0 ≤ t223 then (if t223 < (x214001.length : Int) then (if ((rd_T68 x214001 t223).f3) = x7 then (spec_l21Move.l0 k x1 x7 x214000 x214001 (wrap64 (x214002 + x1))) else (some (x214000, x214001, x214002, true))) else (none)) else (none))))) else (some (x214000, x214001, x214002, true))
end
def spec_l21Move.f (k : Nat) (a0_0 : ByteArray) (l0_1 : List (S68)) (a0_2 : Int) (a1 : Int) : Option (ByteArray × (List (S68)) × Int × Bool) := (some (([] : List (S68)) : List (S68))).bind fun y215 => (if y215.length + l0_1.length < 2932031007402 then ((some (y215 ++ l0_1 : List (S68))).bind fun y218 => ((spec_l21Next.f a0_2 a1).bind fun t221 => (if t221 < 0 then (spec_l21Move.j0 k a1 t221 true a0_0 y218 a0_2) else (spec_l21Move.j0 k a1 t221 (decide (t221 ≥ (y218.length : Int))) a0_0 y218 a0_2)))) else (none))
theorem spec_l21Move.mono_l : ∀ k, (∀ y0 y1 y2 y3 y4 y5, LeO (spec_l21Move.j0 k y0 y1 y2 y3 y4 y5) (spec_l21Move.j0 (k + 1) y0 y1 y2 y3 y4 y5)) ∧ (∀ y0 y1 y2 y3 y4, LeO (spec_l21Move.l0 k y0 y1 y2 y3 y4) (spec_l21Move.l0 (k + 1) y0 y1 y2 y3 y4))
  | 0 => ⟨fun _ _ _ _ _ _ r h => by simp [spec_l21Move.j0] at h, fun _ _ _ _ _ r h => by simp [spec_l21Move.l0] at h⟩
  | k + 1 => by
    obtain ⟨ih0, ih1⟩ := spec_l21Move.mono_l k
    refine ⟨?_, ?_⟩
    · intro y0 y1 y2 y3 y4 y5
      unfold spec_l21Move.j0
      repeat' first
      | (with_reducible exact ih0 _ _ _ _ _ _)
      | (with_reducible exact ih1 _ _ _ _ _)
      | (with_reducible exact LeO.refl _)
      | (with_reducible exact LeO.none _)
      | (with_reducible refine LeO.ite ?_ ?_)
      | (with_reducible refine LeO.bind ?_ (fun _ => ?_))
      | exact ih0 _ _ _ _ _ _
      | exact ih1 _ _ _ _ _
      | exact LeO.none _
      | refine LeO.ite ?_ ?_
      | refine LeO.bind ?_ (fun _ => ?_)
    · intro y0 y1 y2 y3 y4
      unfold spec_l21Move.l0
      repeat' first
      | (with_reducible exact ih0 _ _ _ _ _ _)
      | (with_reducible exact ih1 _ _ _ _ _)
      | (with_reducible exact LeO.refl _)
      | (with_reducible exact LeO.none _)
      | (with_reducible refine LeO.ite ?_ ?_)
      | (with_reducible refine LeO.bind ?_ (fun _ => ?_))
      | exact ih0 _ _ _ _ _ _
      | exact ih1 _ _ _ _ _
      | exact LeO.none _
      | refine LeO.ite ?_ ?_
      | refine LeO.bind ?_ (fun _ => ?_)
theorem spec_l21Move.mono : ∀ a0 a1 a2 a3 k, LeO (spec_l21Move.f k a0 a1 a2 a3) (spec_l21Move.f (k + 1) a0 a1 a2 a3) := by
  intro a0 a1 a2 a3 k
  obtain ⟨ih0, ih1⟩ := spec_l21Move.mono_l k
  unfold spec_l21Move.f
  repeat' first
      | (with_reducible exact ih0 _ _ _ _ _ _)
      | (with_reducible exact ih1 _ _ _ _ _)
      | (with_reducible exact LeO.refl _)
      | (with_reducible exact LeO.none _)
      | (with_reducible refine LeO.ite ?_ ?_)
      | (with_reducible refine LeO.bind ?_ (fun _ => ?_))
      | exact ih0 _ _ _ _ _ _
      | exact ih1 _ _ _ _ _
      | exact LeO.none _
      | refine LeO.ite ?_ ?_
      | refine LeO.bind ?_ (fun _ => ?_)
set_option maxHeartbeats 8000000 in
set_option maxRecDepth 100000 in
theorem spec_l21Move.calls (k : Nat) (a0_0 : ByteArray) (A0_1 : Option Addr) (c0_1 : Nat) (l0_1 : List (S68)) (a0_2 : Int) (a1 : Int) (r1 : ByteArray) (r2 : List (S68)) (r3 : Int) (r4 : Bool) (w : World) (hr0_1 : Kd.C k68 w A0_1 l0_1.length l0_1) (hc0_1 : l0_1.length ≤ c0_1) (h : spec_l21Move.f k a0_0 l0_1 a0_2 a1 = some (r1, r2, r3, r4)) :
    Calls Try.prog 77 #[.agg #[.string a0_0, .slice A0_1 l0_1.length c0_1, .int .i64 a0_2], .int .i64 a1] w fun e w' => ∃ v1_ : Value, e = .returned (.tuple #[.agg #[.string r1, v1_, .int .i64 r3], .bool r4]) ∧ Kd.R k68 68 w' w.heap.size (fun _ => True) v1_ r2 ∧ Below w.heap.size w w' := by
  have hu29 := Try.underlying29
  have HR0_1 := am hr0_1
  have HC0_1 := am hc0_1
  clear hr0_1 hc0_1
  have HB := am (Below.refl w.heap.size w)
  have H : ((some (([] : List (S68)) : List (S68))).bind fun y215 => (if y215.length + l0_1.length < 2932031007402 then ((some (y215 ++ l0_1 : List (S68))).bind fun y218 => ((spec_l21Next.f a0_2 a1).bind fun t221 => (if t221 < 0 then (spec_l21Move.j0 k a1 t221 true a0_0 y218 a0_2) else (spec_l21Move.j0 k a1 t221 (decide (t221 ≥ (y218.length : Int))) a0_0 y218 a0_2)))) else (none))) = some (r1, r2, r3, r4) := h
  clear h
  obtain ⟨y215, hy215⟩ : ∃ y_ : List (S68), y_ = (([] : List (S68))) := ⟨_, rfl⟩
  replace H : (if y215.length + l0_1.length < 2932031007402 then ((some (y215 ++ l0_1 : List (S68))).bind fun y218 => ((spec_l21Next.f a0_2 a1).bind fun t221 => (if t221 < 0 then (spec_l21Move.j0 k a1 t221 true a0_0 y218 a0_2) else (spec_l21Move.j0 k a1 t221 (decide (t221 ≥ (y218.length : Int))) a0_0 y218 a0_2)))) else (none)) = some (r1, r2, r3, r4) := by first | (rw [hy215]; with_reducible exact H) | (have H2_ := (Option.bind_some _ _).symm.trans H; rw [hy215]; with_reducible exact H2_) | (have H2_ := (Option.bind_some _ _).symm.trans H; with_reducible exact H2_) | with_reducible exact H | (rw [hy215]; exact H) | exact H
  have Ny215 := am hy215
  clear hy215
  by_cases c3 : y215.length + l0_1.length < 2932031007402
  · rw [if_pos c3] at H
    have LMc3 := am c3
    clear c3
    obtain ⟨y218, hy218⟩ : ∃ y_ : List (S68), y_ = (y215 ++ l0_1) := ⟨_, rfl⟩
    replace H : ((spec_l21Next.f a0_2 a1).bind fun t221 => (if t221 < 0 then (spec_l21Move.j0 k a1 t221 true a0_0 y218 a0_2) else (spec_l21Move.j0 k a1 t221 (decide (t221 ≥ (y218.length : Int))) a0_0 y218 a0_2))) = some (r1, r2, r3, r4) := by first | (rw [hy218]; with_reducible exact H) | (have H2_ := (Option.bind_some _ _).symm.trans H; rw [hy218]; with_reducible exact H2_) | (have H2_ := (Option.bind_some _ _).symm.trans H; with_reducible exact H2_) | with_reducible exact H | (rw [hy218]; exact H) | exact H
    have Ny218 := am hy218
    clear hy218
    replace H := Option.bind_eq_some_iff.mp H
    obtain ⟨t221, A40, H⟩ := H
    replace H : (if t221 < 0 then (spec_l21Move.j0 k a1 t221 true a0_0 y218 a0_2) else (spec_l21Move.j0 k a1 t221 (decide (t221 ≥ (y218.length : Int))) a0_0 y218 a0_2)) = some (r1, r2, r3, r4) := H
    have A4 := am A40
    clear A40
    have HC5 := am H
    clear H
    go_enter Try.func77, Try.ntmps77
    go_upto_region 3 with (first | ((with_reducible refine gate_dst (N := 2) rfl ?_); (try (refine gate_guard (by rfl) ?_; dsimp only)); refine bX (N := 2) (cs := #[.string a0_0, .slice A0_1 l0_1.length c0_1, .int .i64 a0_2]) (t := 29) ?_; intro gb213 hg w6 hbox hb; have BK213 := am (hbox); have GW213 := am ((by rw [hg]; exact (below_size (w := w) i_) : w.heap.size ≤ gb213)); have GE213 := am ((by rw [hg]; exact (below_size (w := w) i_) : w.heap.size ≤ gb213)); replace HB := am (below_step (w := w) i_ hb); clear hb hbox hg) | ((with_reducible refine gate_dst (N := 4) rfl ?_); (try (refine gate_guard (by rfl) ?_; dsimp only)); refine bX (N := 4) (cs := #[.string (⟨#[]⟩ : ByteArray), .slice none 0 0, .int .i64 0]) (t := 29) ?_; intro gb214 hg w7 hbox hb; have BK214 := am (hbox); have GW214 := am ((by rw [hg]; exact (below_size (w := w) i_) : w.heap.size ≤ gb214)); have GE214 := am ((by rw [hg]; exact (below_size (w := w) i_) : w.heap.size ≤ gb214)); have NB213_214 := am ((by rw [hg]; exact Nat.ne_of_lt (blk_lt (g := gb213) (o := .cells #[.string a0_0, .slice A0_1 l0_1.length c0_1, .int .i64 a0_2] 29 (0, 0)) i_) : gb213 ≠ gb214)); have NB214_213 := am ((by rw [hg]; exact Nat.ne_of_gt (blk_lt (g := gb213) (o := .cells #[.string a0_0, .slice A0_1 l0_1.length c0_1, .int .i64 a0_2] 29 (0, 0)) i_) : gb214 ≠ gb213)); replace BK213 := am (blk_below (g := gb213) (o := .cells #[.string a0_0, .slice A0_1 l0_1.length c0_1, .int .i64 a0_2] 29 (0, 0)) i_ hb); replace HB := am (below_step (w := w) i_ hb); clear hb hbox hg) | ((with_reducible refine gate_dst (N := 8) rfl ?_); (try (refine gate_guard (by rfl) ?_; dsimp only)); refine Kd.R_lit k68 _ 68 ?hg (N := 8) ?hd (xs := ([] : List (S68))) (inner := []) (ok := fun _ => True) (okp := fun _ => True) ?hr ?hp (fun _ hk => hk) trivial (Below.refl _ _) (Nat.le_refl _) (by simp) ?_; (case hd => rfl); (case hg => rfl); (case hr => first | (go_simp; done) | (go_simp; rfl)); (case hp => exact (Reps.none _ _)); intro v216 w8 ho9 hb hg_ hnew_; clear hg_ hnew_; (first | rw [← Ny215.out] at ho9 | (simp only [Int.reduceToNat] at ho9; rw [← Ny215.out] at ho9)); have HO217 := am (Kd.R_lower ho9 (below_size (w := w) i_)); replace BK213 := am (blk_below (g := gb213) (o := .cells #[.string a0_0, .slice A0_1 l0_1.length c0_1, .int .i64 a0_2] 29 (0, 0)) i_ hb); replace BK214 := am (blk_below (g := gb214) (o := .cells #[.string (⟨#[]⟩ : ByteArray), .slice none 0 0, .int .i64 0] 29 (0, 0)) i_ hb); replace HB := am (below_step (w := w) i_ hb); clear hb ho9; have hnb10 := NB213_214.out; have hnc10 := NB214_213.out; have hcz11 := bc3 BK213.out) | ((with_reducible refine gate_builtin (b := .append) (xs := #[.tmp 8, .tmp 10]) rfl ?_); (try (refine gate_guard (by rfl) ?_; dsimp only)); at_builtin; refine Kd.R_append_rows k68 (w0 := w) w.heap.size rfl (.tmp 8) (.tmp 10) 27 68 (.agg #[(.int .i64 0), (.string ⟨#[]⟩), (.string ⟨#[]⟩), (.int .i64 0)]) 48 rfl Try.underlying27 info68 rfl (by decide) (by omega) v216 y215 l0_1 _ _ _ (fun _ => True) (fun _ => False) rfl rfl ?aO ?aR (fun _ _ h => h) (fun _ h => h.elim) ?aF ?aB ?aS ?aL ?_; (case aR => exact Kd.C_below HR0_1.out i_); (case aB => exact i_); (case aF => exact (fun _ _ => trivial)); (case aO => exact (by (with_reducible repeat (first | apply Kd.R_alloc | apply Kd.R_drewN | apply Kd.R_drew)); exact HO217.out)); (case aS => exact (below_size (w := w) i_)); (case aL => have := LMc3.out; omega); intro v219 w12 ho hb hg hat; rw [← Ny218.out] at ho; have n0_ := am (blk_grown (g := gb213) (o := .cells #[.string a0_0, .slice A0_1 l0_1.length c0_1, .int .i64 a0_2] 29 (0, 0)) i_ hg (Kd.R_ne HO217.out BK213.out (by decide))); have n1_ := am (blk_grown (g := gb214) (o := .cells #[.string (⟨#[]⟩ : ByteArray), .slice none 0 0, .int .i64 0] 29 (0, 0)) i_ hg (Kd.R_ne HO217.out BK214.out (by decide))); have n2_ := am (hb); have n3_ := am (ho); clear BK213; clear BK214; clear HB; clear HO217; have BK213 := n0_; have BK214 := n1_; have HB := n2_; have HO220 := n3_; clear n0_ n1_ n2_ n3_; clear ho hb hg hat; obtain ⟨Ao13, co13, eo13⟩ := Kd.R_slice HO220.out; subst eo13; have hcz14 := bc3 BK213.out) | ((with_reducible refine gate_callee (f := 84) rfl ?_); refine gL (some 16) Try.func84 #[.int .i64 a0_2, .int .i64 a1] rfl ?_; (with_reducible refine (spec_l21Next.calls a0_2 a1 t221 _ A4.out).mono ?_); rintro e w' ⟨rfl, ⟨nd, rfl⟩⟩; refine ⟨_, rfl, ?_⟩))
    (try simp only [Act.put, List.setIfInBounds_toArray, List.set_cons_zero, List.set_cons_succ])
    go_cut [25] (fun v25 wc => ∃ (kq : Nat) (x25_4 : Bool), v25 = .bool x25_4 ∧ Fc (spec_l21Move.j0 kq a1 t221 x25_4 a0_0 y218 a0_2 = some (r1, r2, r3, r4)) ∧ Fc (kq ≤ k) ∧ Fc (Kd.R k68 68 wc w.heap.size (fun _ => True) (.slice Ao13 y218.length co13) y218) ∧ Fc (wc.heap[gb213]? = some (.cells #[.string a0_0, (.slice Ao13 y218.length co13), .int .i64 a0_2] 29 (0, 0))) ∧ Fc (wc.heap[gb214]? = some (.cells #[.string (⟨#[]⟩ : ByteArray), (.slice none 0 0), .int .i64 0] 29 (0, 0))) ∧ Fc (Below w.heap.size w wc))
    case first =>
      have H := HC5.out
      clear HC5
      by_cases c15 : t221 < 0
      · rw [if_pos c15] at H
        have c15b0 : decide (t221 < 0) = true := decide_eq_true c15
        clear c15
        (first | rw [c15b0] | (simp only [i64_w, i32_w]; rw [c15b0]) | skip)
        have H' := am H
        clear H
        go_wp2
        go_meet
        case rel => exact ⟨_, (true), (by first | rfl | (simp; done) | (simp [*]; done)), H', ⟨by first | omega | exact Nat.le_refl _⟩, ⟨by (with_reducible repeat (first | apply Kd.R_alloc | apply Kd.R_drewN | apply Kd.R_drew)); exact Kd.R_mono (Kd.R_far (p := ⟨gb213, 1, none⟩) (Kd.R_types HO220.out BK213.out (by decide)) (fun _ hk => hk.2) (.slice Ao13 y218.length co13)) (fun _ hk => trivial)⟩, ⟨by (with_reducible repeat (first | refine blk_drewN ?_ _ | refine blk_drew ?_ | refine blk_alloc ?_ _)); refine blk_put (cs := #[.string a0_0, .slice A0_1 l0_1.length c0_1, .int .i64 a0_2]) ?_ 1 _ rfl; (with_reducible repeat (first | refine blk_drewN ?_ _ | refine blk_drew ?_ | refine blk_alloc ?_ _)); exact BK213.out⟩, ⟨i_⟩, ⟨i_⟩⟩
      · rw [if_neg c15] at H
        have c15b0 : decide (t221 < 0) = false := decide_eq_false c15
        clear c15
        (first | rw [c15b0] | (simp only [i64_w, i32_w]; rw [c15b0]) | skip)
        have H' := am H
        clear H
        have hnb16 := NB213_214.out
        have hnc16 := NB214_213.out
        have hcz17 := bc3 BK213.out
        go_wp2
        go_meet
        case rel => exact ⟨_, (decide (t221 ≥ (y218.length : Int))), (by first | rfl | (simp; done) | (simp [*]; done)), H', ⟨by first | omega | exact Nat.le_refl _⟩, ⟨by (with_reducible repeat (first | apply Kd.R_alloc | apply Kd.R_drewN | apply Kd.R_drew)); exact Kd.R_mono (Kd.R_far (p := ⟨gb213, 1, none⟩) (Kd.R_types HO220.out BK213.out (by decide)) (fun _ hk => hk.2) (.slice Ao13 y218.length co13)) (fun _ hk => trivial)⟩, ⟨by (with_reducible repeat (first | refine blk_drewN ?_ _ | refine blk_drew ?_ | refine blk_alloc ?_ _)); refine blk_put (cs := #[.string a0_0, .slice A0_1 l0_1.length c0_1, .int .i64 a0_2]) ?_ 1 _ rfl; (with_reducible repeat (first | refine blk_drewN ?_ _ | refine blk_drew ?_ | refine blk_alloc ?_ _)); exact BK213.out⟩, ⟨i_⟩, ⟨i_⟩⟩
    case rest =>
      clear HC5
      (try clear c1); (try clear p2); (try clear c3); (try clear c7); (try clear c8); (try clear c10); (try clear c15); (try clear c15b0); (try clear c16); (try clear hcz11); (try clear hcz14); (try clear hcz17)
      obtain ⟨kq, x25_4, rfl, HA, HJ4, HO_214001, BK213, BK214, HB⟩ := hcut
      cases kq with
      | zero => exact absurd HA.out (by simp [spec_l21Move.j0])
      | succ kj4 =>
        have H := HA.out
        clear HA
        simp only [spec_l21Move.j0] at H
        by_cases c18 : x25_4 = true
        · subst c18
          have H1 : (some (a0_0, y218, a0_2, false)) = some (r1, r2, r3, r4) := by rw [if_pos rfl] at H; exact H
          clear H
          have H := H1
          clear H1
          simp only [Option.some.injEq, Prod.mk.injEq] at H
          obtain ⟨rfl, rfl, rfl, rfl⟩ := H
          have hnb19 := NB213_214.out
          have hnc19 := NB214_213.out
          have hcz20 := bc3 BK213.out
          have hcz21 := bc3 BK214.out
          go_wp2
          refine bodyPost_ret (results_ct rfl _ _ gb214 29 #[.string a0_0, .slice Ao13 y218.length co13, .int .i64 a0_2] (0, 0) _ rfl (by (with_reducible repeat (first | refine blk_drewN ?_ _ | refine blk_drew ?_ | refine blk_alloc ?_ _)); refine blk_put (cs := #[.string a0_0, .slice Ao13 y218.length co13, .int .i64 0]) ?_ 2 _ rfl; (with_reducible repeat (first | refine blk_drewN ?_ _ | refine blk_drew ?_ | refine blk_alloc ?_ _)); refine blk_put (cs := #[.string a0_0, .slice none 0 0, .int .i64 0]) ?_ 1 _ rfl; (with_reducible repeat (first | refine blk_drewN ?_ _ | refine blk_drew ?_ | refine blk_alloc ?_ _)); refine blk_put (cs := #[.string (⟨#[]⟩ : ByteArray), .slice none 0 0, .int .i64 0]) ?_ 0 _ rfl; (with_reducible repeat (first | refine blk_drewN ?_ _ | refine blk_drew ?_ | refine blk_alloc ?_ _)); exact BK214.out) Try.underlying29 rfl (by kernel_rfl)) rfl ?_
          exact ⟨_, by first | rfl | (simp [errW_none, errW_some] <;> rfl) | (simp [*, errW_none, errW_some] <;> rfl), by (with_reducible repeat (first | apply Kd.R_alloc | apply Kd.R_drewN | apply Kd.R_drew)); exact Kd.R_mono (Kd.R_far (p := ⟨gb214, 2, none⟩) (Kd.R_far (p := ⟨gb214, 1, none⟩) (Kd.R_far (p := ⟨gb214, 0, none⟩) (Kd.R_types HO_214001.out BK214.out (by decide)) (fun _ hk => hk.2) (.string a0_0)) (fun _ hk => hk.2) (.slice Ao13 y218.length co13)) (fun _ hk => hk.2) (.int .i64 a0_2)) (fun _ hk => trivial), i_⟩
        · replace c18 := Bool.eq_false_iff.mpr c18
          subst c18
          have H1 : (if 0 ≤ t221 then (if t221 < (y218.length : Int) then (spec_l21Move.l0 kj4 a1 ((rd_T68 y218 t221).f3) a0_0 y218 (wrap64 (a0_2 + a1))) else (none)) else (none)) = some (r1, r2, r3, r4) := by rw [if_neg (show ¬ (false = true) by decide)] at H; exact H
          clear H
          have H := H1
          clear H1
          by_cases c22 : 0 ≤ t221
          · rw [if_pos c22] at H
            have c22b0 : decide (0 ≤ t221) = true := decide_eq_true c22
            clear c22
            by_cases c23 : t221 < (y218.length : Int)
            · rw [if_pos c23] at H
              have c23b0 : decide (t221 < (y218.length : Int)) = true := decide_eq_true c23
              clear c23
              have H' := am H
              clear H
              have hnb24 := NB213_214.out
              have hnc24 := NB214_213.out
              have hcz25 := bc3 BK213.out
              have p222 : 0 ≤ (t221 : Int) := of_decide_eq_true (by first | (with_reducible assumption) | assumption)
              have q222 : t221 < (y218.length : Int) := of_decide_eq_true (by first | (with_reducible assumption) | assumption)
              obtain ⟨ad222, e222, hx222_0, hx222_1, hx222_2, hx222_3⟩ := at_T68 (Kd.R_reads' HO_214001.out).2.2 t221 p222 q222
              cases e222
              replace p222 := eq_true p222
              replace q222 := eq_true q222
              go_wp2
              go_loopg [] kj4 (fun kq w' => ∃ (x214002_2 : Int), Fc (spec_l21Move.l0 kq a1 ((rd_T68 y218 t221).f3) a0_0 y218 x214002_2 = some (r1, r2, r3, r4)) ∧ Fc (kq ≤ kj4) ∧ Fc (Kd.R k68 68 w' w.heap.size (fun _ => True) (.slice (some ad222) y218.length co13) y218) ∧ Fc (w'.heap[gb213]? = some (.cells #[.string a0_0, (.slice (some ad222) y218.length co13), .int .i64 x214002_2] 29 (0, 0))) ∧ Fc (w'.heap[gb214]? = some (.cells #[.string (⟨#[]⟩ : ByteArray), (.slice none 0 0), .int .i64 0] 29 (0, 0))) ∧ Fc (Below w.heap.size w w'))
              case atStart => exact ⟨(wrap64 (a0_2 + a1)), H', ⟨Nat.le_refl _⟩, ⟨by (with_reducible repeat (first | apply Kd.R_alloc | apply Kd.R_drewN | apply Kd.R_drew)); exact Kd.R_mono (Kd.R_far (p := ⟨gb213, 2, none⟩) (Kd.R_types HO_214001.out BK213.out (by decide)) (fun _ hk => hk.2) (.int .i64 (wrap64 (a0_2 + a1)))) (fun _ hk => trivial)⟩, ⟨by (with_reducible repeat (first | refine blk_drewN ?_ _ | refine blk_drew ?_ | refine blk_alloc ?_ _)); refine blk_put (cs := #[.string a0_0, .slice (some ad222) y218.length co13, .int .i64 a0_2]) ?_ 2 _ rfl; (with_reducible repeat (first | refine blk_drewN ?_ _ | refine blk_drew ?_ | refine blk_alloc ?_ _)); exact BK213.out⟩, ⟨i_⟩, ⟨i_⟩⟩
              case round =>
                clear H'
                (try clear c1); (try clear c2); (try clear p2); (try clear q2); (try clear hx2); (try clear c3); (try clear p6); (try clear c7); (try clear c8); (try clear c10); (try clear c15); (try clear c15b0); (try clear c16); (try clear c18); (try clear c19); (try clear c22); (try clear c22b0); (try clear p22); (try clear q22); (try clear hx22); (try clear c23); (try clear c23b0); (try clear c24); (try clear hcz11); (try clear hcz14); (try clear hcz17); (try clear hcz20); (try clear hcz21); (try clear hcz25); (try clear hx222_0); (try clear hx222_1); (try clear hx222_2); (try clear hx222_3); (try clear p222); (try clear q222)
                obtain ⟨x214002_2, HA, HK2, HO_214001, BK213, BK214, HB⟩ := hrel
                cases gk with
                | zero => exact absurd HA.out (by simp [spec_l21Move.l0])
                | succ k2 =>
                  have H := HA.out
                  clear HA
                  simp only [spec_l21Move.l0] at H
                  by_cases c26 : ((rd_T68 y218 t221).f3) > 0
                  · rw [if_pos c26] at H
                    have c26b0 : decide (0 < ((rd_T68 y218 t221).f3)) = true := decide_eq_true c26
                    clear c26
                    replace H := Option.bind_eq_some_iff.mp H
                    obtain ⟨t223, A270, H⟩ := H
                    replace H : (if t223 < 0 then (some (a0_0, y218, x214002_2, true)) else (if t223 ≥ (y218.length : Int) then (some (a0_0, y218, x214002_2, true)) else (if 0 ≤ t223 then (if t223 < (y218.length : Int) then (if ((rd_T68 y218 t223).f3) = ((rd_T68 y218 t221).f3) then (spec_l21Move.l0 k2 a1 ((rd_T68 y218 t221).f3) a0_0 y218 (wrap64 (x214002_2 + a1))) else (some (a0_0, y218, x214002_2, true))) else (none)) else (none)))) = some (r1, r2, r3, r4) := H
                    have A27 := am A270
                    clear A270
                    by_cases c28 : t223 < 0
                    · rw [if_pos c28] at H
                      have c28b0 : decide (t223 < 0) = true := decide_eq_true c28
                      clear c28
                      simp only [Option.some.injEq, Prod.mk.injEq] at H
                      obtain ⟨rfl, rfl, rfl, rfl⟩ := H
                      have hnb29 := NB213_214.out
                      have hnc29 := NB214_213.out
                      have hcz30 := bc3 BK213.out
                      go_wp2_with (first | ((with_reducible refine gate_callee (f := 84) rfl ?_); refine gL (some 43) Try.func84 #[.int .i64 x214002_2, .int .i64 a1] rfl ?_; (with_reducible refine (spec_l21Next.calls x214002_2 a1 t223 _ A27.out).mono ?_); rintro e w' ⟨rfl, ⟨nd, rfl⟩⟩; refine ⟨_, rfl, ?_⟩; (try (rw [drewN_self wr]; generalize hq_ : World.drewN wr _ = wr; have n0_ : Fc (Kd.R k68 68 wr w.heap.size (fun _ => True) (.slice (some ad222) y218.length co13) y218) := ⟨by rw [← hq_]; exact (by (with_reducible repeat (first | apply Kd.R_alloc | apply Kd.R_drewN | apply Kd.R_drew)); exact HO_214001.out)⟩; have n1_ : Fc (wr.heap[gb213]? = some (.cells #[.string a0_0, .slice (some ad222) y218.length co13, .int .i64 x214002_2] 29 (0, 0))) := ⟨by rw [← hq_]; exact (kB BK213.out i_)⟩; have n2_ : Fc (wr.heap[gb214]? = some (.cells #[.string (⟨#[]⟩ : ByteArray), .slice none 0 0, .int .i64 0] 29 (0, 0))) := ⟨by rw [← hq_]; exact (kB BK214.out i_)⟩; have n3_ : Fc (Below w.heap.size w wr) := ⟨by rw [← hq_]; exact i_⟩; clear HO_214001 BK213 BK214 HB hq_; have HO_214001 := n0_; have BK213 := n1_; have BK214 := n2_; have HB := n3_; clear n0_ n1_ n2_ n3_)); have hcz31 := bc3 BK213.out; have hcz32 := bc3 BK214.out))
                      refine bodyPost_ret (results_ct rfl _ _ gb214 29 #[.string a0_0, .slice (some ad222) y218.length co13, .int .i64 x214002_2] (0, 0) _ rfl (by (with_reducible repeat (first | refine blk_drewN ?_ _ | refine blk_drew ?_ | refine blk_alloc ?_ _)); refine blk_put (cs := #[.string a0_0, .slice (some ad222) y218.length co13, .int .i64 0]) ?_ 2 _ rfl; (with_reducible repeat (first | refine blk_drewN ?_ _ | refine blk_drew ?_ | refine blk_alloc ?_ _)); refine blk_put (cs := #[.string a0_0, .slice none 0 0, .int .i64 0]) ?_ 1 _ rfl; (with_reducible repeat (first | refine blk_drewN ?_ _ | refine blk_drew ?_ | refine blk_alloc ?_ _)); refine blk_put (cs := #[.string (⟨#[]⟩ : ByteArray), .slice none 0 0, .int .i64 0]) ?_ 0 _ rfl; (with_reducible repeat (first | refine blk_drewN ?_ _ | refine blk_drew ?_ | refine blk_alloc ?_ _)); exact BK214.out) Try.underlying29 rfl (by kernel_rfl)) rfl ?_
                      exact ⟨_, by first | rfl | (simp [errW_none, errW_some] <;> rfl) | (simp [*, errW_none, errW_some] <;> rfl), by (with_reducible repeat (first | apply Kd.R_alloc | apply Kd.R_drewN | apply Kd.R_drew)); exact Kd.R_mono (Kd.R_far (p := ⟨gb214, 2, none⟩) (Kd.R_far (p := ⟨gb214, 1, none⟩) (Kd.R_far (p := ⟨gb214, 0, none⟩) (Kd.R_types HO_214001.out BK214.out (by decide)) (fun _ hk => hk.2) (.string a0_0)) (fun _ hk => hk.2) (.slice (some ad222) y218.length co13)) (fun _ hk => hk.2) (.int .i64 x214002_2)) (fun _ hk => trivial), i_⟩
                    · rw [if_neg c28] at H
                      have c28b0 : decide (t223 < 0) = false := decide_eq_false c28
                      clear c28
                      by_cases c33 : t223 ≥ (y218.length : Int)
                      · rw [if_pos c33] at H
                        have c33b0 : decide ((y218.length : Int) ≤ t223) = true := decide_eq_true c33
                        clear c33
                        simp only [Option.some.injEq, Prod.mk.injEq] at H
                        obtain ⟨rfl, rfl, rfl, rfl⟩ := H
                        have hnb34 := NB213_214.out
                        have hnc34 := NB214_213.out
                        have hcz35 := bc3 BK213.out
                        go_wp2_with (first | ((with_reducible refine gate_callee (f := 84) rfl ?_); refine gL (some 43) Try.func84 #[.int .i64 x214002_2, .int .i64 a1] rfl ?_; (with_reducible refine (spec_l21Next.calls x214002_2 a1 t223 _ A27.out).mono ?_); rintro e w' ⟨rfl, ⟨nd, rfl⟩⟩; refine ⟨_, rfl, ?_⟩; (try (rw [drewN_self wr]; generalize hq_ : World.drewN wr _ = wr; have n0_ : Fc (Kd.R k68 68 wr w.heap.size (fun _ => True) (.slice (some ad222) y218.length co13) y218) := ⟨by rw [← hq_]; exact (by (with_reducible repeat (first | apply Kd.R_alloc | apply Kd.R_drewN | apply Kd.R_drew)); exact HO_214001.out)⟩; have n1_ : Fc (wr.heap[gb213]? = some (.cells #[.string a0_0, .slice (some ad222) y218.length co13, .int .i64 x214002_2] 29 (0, 0))) := ⟨by rw [← hq_]; exact (kB BK213.out i_)⟩; have n2_ : Fc (wr.heap[gb214]? = some (.cells #[.string (⟨#[]⟩ : ByteArray), .slice none 0 0, .int .i64 0] 29 (0, 0))) := ⟨by rw [← hq_]; exact (kB BK214.out i_)⟩; have n3_ : Fc (Below w.heap.size w wr) := ⟨by rw [← hq_]; exact i_⟩; clear HO_214001 BK213 BK214 HB hq_; have HO_214001 := n0_; have BK213 := n1_; have BK214 := n2_; have HB := n3_; clear n0_ n1_ n2_ n3_)); have hcz36 := bc3 BK213.out; have hcz37 := bc3 BK214.out))
                        refine bodyPost_ret (results_ct rfl _ _ gb214 29 #[.string a0_0, .slice (some ad222) y218.length co13, .int .i64 x214002_2] (0, 0) _ rfl (by (with_reducible repeat (first | refine blk_drewN ?_ _ | refine blk_drew ?_ | refine blk_alloc ?_ _)); refine blk_put (cs := #[.string a0_0, .slice (some ad222) y218.length co13, .int .i64 0]) ?_ 2 _ rfl; (with_reducible repeat (first | refine blk_drewN ?_ _ | refine blk_drew ?_ | refine blk_alloc ?_ _)); refine blk_put (cs := #[.string a0_0, .slice none 0 0, .int .i64 0]) ?_ 1 _ rfl; (with_reducible repeat (first | refine blk_drewN ?_ _ | refine blk_drew ?_ | refine blk_alloc ?_ _)); refine blk_put (cs := #[.string (⟨#[]⟩ : ByteArray), .slice none 0 0, .int .i64 0]) ?_ 0 _ rfl; (with_reducible repeat (first | refine blk_drewN ?_ _ | refine blk_drew ?_ | refine blk_alloc ?_ _)); exact BK214.out) Try.underlying29 rfl (by kernel_rfl)) rfl ?_
                        exact ⟨_, by first | rfl | (simp [errW_none, errW_some] <;> rfl) | (simp [*, errW_none, errW_some] <;> rfl), by (with_reducible repeat (first | apply Kd.R_alloc | apply Kd.R_drewN | apply Kd.R_drew)); exact Kd.R_mono (Kd.R_far (p := ⟨gb214, 2, none⟩) (Kd.R_far (p := ⟨gb214, 1, none⟩) (Kd.R_far (p := ⟨gb214, 0, none⟩) (Kd.R_types HO_214001.out BK214.out (by decide)) (fun _ hk => hk.2) (.string a0_0)) (fun _ hk => hk.2) (.slice (some ad222) y218.length co13)) (fun _ hk => hk.2) (.int .i64 x214002_2)) (fun _ hk => trivial), i_⟩
                      · rw [if_neg c33] at H
                        have c33b0 : decide ((y218.length : Int) ≤ t223) = false := decide_eq_false c33
                        clear c33
                        by_cases c38 : 0 ≤ t223
                        · rw [if_pos c38] at H
                          have c38b0 : decide (0 ≤ t223) = true := decide_eq_true c38
                          clear c38
                          by_cases c39 : t223 < (y218.length : Int)
                          · rw [if_pos c39] at H
                            have c39b0 : decide (t223 < (y218.length : Int)) = true := decide_eq_true c39
                            clear c39
                            by_cases c40 : ((rd_T68 y218 t223).f3) = ((rd_T68 y218 t221).f3)
                            · rw [if_pos c40] at H
                              have c40b0 : (((rd_T68 y218 t223).f3) == ((rd_T68 y218 t221).f3)) = true := beq_iff_eq.mpr c40
                              have c40b1 : (((rd_T68 y218 t223).f3) != ((rd_T68 y218 t221).f3)) = false := bne_eq_false_iff_eq.mpr c40
                              clear c40
                              have H' := am H
                              clear H
                              have hnb41 := NB213_214.out
                              have hnc41 := NB214_213.out
                              have hcz42 := bc3 BK213.out
                              go_wp2_with (first | ((with_reducible refine gate_callee (f := 84) rfl ?_); refine gL (some 43) Try.func84 #[.int .i64 x214002_2, .int .i64 a1] rfl ?_; (with_reducible refine (spec_l21Next.calls x214002_2 a1 t223 _ A27.out).mono ?_); rintro e w' ⟨rfl, ⟨nd, rfl⟩⟩; refine ⟨_, rfl, ?_⟩; (try (rw [drewN_self wr]; generalize hq_ : World.drewN wr _ = wr; have n0_ : Fc (Kd.R k68 68 wr w.heap.size (fun _ => True) (.slice (some ad222) y218.length co13) y218) := ⟨by rw [← hq_]; exact (by (with_reducible repeat (first | apply Kd.R_alloc | apply Kd.R_drewN | apply Kd.R_drew)); exact HO_214001.out)⟩; have n1_ : Fc (wr.heap[gb213]? = some (.cells #[.string a0_0, .slice (some ad222) y218.length co13, .int .i64 x214002_2] 29 (0, 0))) := ⟨by rw [← hq_]; exact (kB BK213.out i_)⟩; have n2_ : Fc (wr.heap[gb214]? = some (.cells #[.string (⟨#[]⟩ : ByteArray), .slice none 0 0, .int .i64 0] 29 (0, 0))) := ⟨by rw [← hq_]; exact (kB BK214.out i_)⟩; have n3_ : Fc (Below w.heap.size w wr) := ⟨by rw [← hq_]; exact i_⟩; clear HO_214001 BK213 BK214 HB hq_; have HO_214001 := n0_; have BK213 := n1_; have BK214 := n2_; have HB := n3_; clear n0_ n1_ n2_ n3_)); have hcz43 := bc3 BK213.out; have p224 : 0 ≤ (t223 : Int) := of_decide_eq_true (by first | (with_reducible assumption) | assumption); have q224 : t223 < (y218.length : Int) := of_decide_eq_true (by first | (with_reducible assumption) | assumption); obtain ⟨ad224, e224, hx224_0, hx224_1, hx224_2, hx224_3⟩ := at_T68 (Kd.R_reads' HO_214001.out).2.2 t223 p224 q224; obtain rfl : ad222 = ad224 := (by injection e224); replace p224 := eq_true p224; replace q224 := eq_true q224))
                              go_roundg k2
                              case measure => have := HJ4.out; have := HK2.out; omega
                              case rel => exact ⟨(wrap64 (x214002_2 + a1)), H', ⟨by have := HJ4.out; have := HK2.out; omega⟩, ⟨by (with_reducible repeat (first | apply Kd.R_alloc | apply Kd.R_drewN | apply Kd.R_drew)); exact Kd.R_mono (Kd.R_far (p := ⟨gb213, 2, none⟩) (Kd.R_types HO_214001.out BK213.out (by decide)) (fun _ hk => hk.2) (.int .i64 (wrap64 (x214002_2 + a1)))) (fun _ hk => trivial)⟩, ⟨by (with_reducible repeat (first | refine blk_drewN ?_ _ | refine blk_drew ?_ | refine blk_alloc ?_ _)); refine blk_put (cs := #[.string a0_0, .slice (some ad222) y218.length co13, .int .i64 x214002_2]) ?_ 2 _ rfl; (with_reducible repeat (first | refine blk_drewN ?_ _ | refine blk_drew ?_ | refine blk_alloc ?_ _)); exact BK213.out⟩, ⟨i_⟩, ⟨i_⟩⟩
                            · rw [if_neg c40] at H
                              have c40b0 : (((rd_T68 y218 t223).f3) == ((rd_T68 y218 t221).f3)) = false := beq_eq_false_iff_ne.mpr c40
                              have c40b1 : (((rd_T68 y218 t223).f3) != ((rd_T68 y218 t221).f3)) = true := bne_iff_ne.mpr c40
                              simp only [Option.some.injEq, Prod.mk.injEq] at H
                              obtain ⟨rfl, rfl, rfl, rfl⟩ := H
                              have hnb44 := NB213_214.out
                              have hnc44 := NB214_213.out
                              have hcz45 := bc3 BK213.out
                              go_wp2_with (first | ((with_reducible refine gate_callee (f := 84) rfl ?_); refine gL (some 43) Try.func84 #[.int .i64 x214002_2, .int .i64 a1] rfl ?_; (with_reducible refine (spec_l21Next.calls x214002_2 a1 t223 _ A27.out).mono ?_); rintro e w' ⟨rfl, ⟨nd, rfl⟩⟩; refine ⟨_, rfl, ?_⟩; (try (rw [drewN_self wr]; generalize hq_ : World.drewN wr _ = wr; have n0_ : Fc (Kd.R k68 68 wr w.heap.size (fun _ => True) (.slice (some ad222) y218.length co13) y218) := ⟨by rw [← hq_]; exact (by (with_reducible repeat (first | apply Kd.R_alloc | apply Kd.R_drewN | apply Kd.R_drew)); exact HO_214001.out)⟩; have n1_ : Fc (wr.heap[gb213]? = some (.cells #[.string a0_0, .slice (some ad222) y218.length co13, .int .i64 x214002_2] 29 (0, 0))) := ⟨by rw [← hq_]; exact (kB BK213.out i_)⟩; have n2_ : Fc (wr.heap[gb214]? = some (.cells #[.string (⟨#[]⟩ : ByteArray), .slice none 0 0, .int .i64 0] 29 (0, 0))) := ⟨by rw [← hq_]; exact (kB BK214.out i_)⟩; have n3_ : Fc (Below w.heap.size w wr) := ⟨by rw [← hq_]; exact i_⟩; clear HO_214001 BK213 BK214 HB hq_; have HO_214001 := n0_; have BK213 := n1_; have BK214 := n2_; have HB := n3_; clear n0_ n1_ n2_ n3_)); have hcz46 := bc3 BK213.out; have p224 : 0 ≤ (t223 : Int) := of_decide_eq_true (by first | (with_reducible assumption) | assumption); have q224 : t223 < (y218.length : Int) := of_decide_eq_true (by first | (with_reducible assumption) | assumption); obtain ⟨ad224, e224, hx224_0, hx224_1, hx224_2, hx224_3⟩ := at_T68 (Kd.R_reads' HO_214001.out).2.2 t223 p224 q224; obtain rfl : ad222 = ad224 := (by injection e224); replace p224 := eq_true p224; replace q224 := eq_true q224; have hcz47 := bc3 BK214.out))
                              refine bodyPost_ret (results_ct rfl _ _ gb214 29 #[.string a0_0, .slice (some ad222) y218.length co13, .int .i64 x214002_2] (0, 0) _ rfl (by (with_reducible repeat (first | refine blk_drewN ?_ _ | refine blk_drew ?_ | refine blk_alloc ?_ _)); refine blk_put (cs := #[.string a0_0, .slice (some ad222) y218.length co13, .int .i64 0]) ?_ 2 _ rfl; (with_reducible repeat (first | refine blk_drewN ?_ _ | refine blk_drew ?_ | refine blk_alloc ?_ _)); refine blk_put (cs := #[.string a0_0, .slice none 0 0, .int .i64 0]) ?_ 1 _ rfl; (with_reducible repeat (first | refine blk_drewN ?_ _ | refine blk_drew ?_ | refine blk_alloc ?_ _)); refine blk_put (cs := #[.string (⟨#[]⟩ : ByteArray), .slice none 0 0, .int .i64 0]) ?_ 0 _ rfl; (with_reducible repeat (first | refine blk_drewN ?_ _ | refine blk_drew ?_ | refine blk_alloc ?_ _)); exact BK214.out) Try.underlying29 rfl (by kernel_rfl)) rfl ?_
                              exact ⟨_, by first | rfl | (simp [errW_none, errW_some] <;> rfl) | (simp [*, errW_none, errW_some] <;> rfl), by (with_reducible repeat (first | apply Kd.R_alloc | apply Kd.R_drewN | apply Kd.R_drew)); exact Kd.R_mono (Kd.R_far (p := ⟨gb214, 2, none⟩) (Kd.R_far (p := ⟨gb214, 1, none⟩) (Kd.R_far (p := ⟨gb214, 0, none⟩) (Kd.R_types HO_214001.out BK214.out (by decide)) (fun _ hk => hk.2) (.string a0_0)) (fun _ hk => hk.2) (.slice (some ad222) y218.length co13)) (fun _ hk => hk.2) (.int .i64 x214002_2)) (fun _ hk => trivial), i_⟩
                          · rw [if_neg c39] at H
                            exact absurd H (by simp)
                        · rw [if_neg c38] at H
                          exact absurd H (by simp)
                  · rw [if_neg c26] at H
                    have c26b0 : decide (0 < ((rd_T68 y218 t221).f3)) = false := decide_eq_false c26
                    clear c26
                    simp only [Option.some.injEq, Prod.mk.injEq] at H
                    obtain ⟨rfl, rfl, rfl, rfl⟩ := H
                    have hnb48 := NB213_214.out
                    have hnc48 := NB214_213.out
                    have hcz49 := bc3 BK213.out
                    have hcz50 := bc3 BK214.out
                    go_wp2
                    refine bodyPost_ret (results_ct rfl _ _ gb214 29 #[.string a0_0, .slice (some ad222) y218.length co13, .int .i64 x214002_2] (0, 0) _ rfl (by (with_reducible repeat (first | refine blk_drewN ?_ _ | refine blk_drew ?_ | refine blk_alloc ?_ _)); refine blk_put (cs := #[.string a0_0, .slice (some ad222) y218.length co13, .int .i64 0]) ?_ 2 _ rfl; (with_reducible repeat (first | refine blk_drewN ?_ _ | refine blk_drew ?_ | refine blk_alloc ?_ _)); refine blk_put (cs := #[.string a0_0, .slice none 0 0, .int .i64 0]) ?_ 1 _ rfl; (with_reducible repeat (first | refine blk_drewN ?_ _ | refine blk_drew ?_ | refine blk_alloc ?_ _)); refine blk_put (cs := #[.string (⟨#[]⟩ : ByteArray), .slice none 0 0, .int .i64 0]) ?_ 0 _ rfl; (with_reducible repeat (first | refine blk_drewN ?_ _ | refine blk_drew ?_ | refine blk_alloc ?_ _)); exact BK214.out) Try.underlying29 rfl (by kernel_rfl)) rfl ?_
                    exact ⟨_, by first | rfl | (simp [errW_none, errW_some] <;> rfl) | (simp [*, errW_none, errW_some] <;> rfl), by (with_reducible repeat (first | apply Kd.R_alloc | apply Kd.R_drewN | apply Kd.R_drew)); exact Kd.R_mono (Kd.R_far (p := ⟨gb214, 2, none⟩) (Kd.R_far (p := ⟨gb214, 1, none⟩) (Kd.R_far (p := ⟨gb214, 0, none⟩) (Kd.R_types HO_214001.out BK214.out (by decide)) (fun _ hk => hk.2) (.string a0_0)) (fun _ hk => hk.2) (.slice (some ad222) y218.length co13)) (fun _ hk => hk.2) (.int .i64 x214002_2)) (fun _ hk => trivial), i_⟩
            · rw [if_neg c23] at H
              exact absurd H (by simp)
          · rw [if_neg c22] at H
            exact absurd H (by simp)
  · rw [if_neg c3] at H
    exact absurd H (by simp)

/-! ### spec_l21Out: function 78 -/
def spec_l21Out.f (k : Nat) (a0_0 : ByteArray) (l0_1 : List (S68)) (a0_2 : Int) : Option (Int × ByteArray × (List (S68)) × Int × ByteArray) := (spec_l21Text.f k a0_0 l0_1 a0_2 a0_2).bind fun bt227 => (some (0, a0_0, l0_1, a0_2, bt227.1))
theorem spec_l21Out.mono : ∀ a0 a1 a2 k, LeO (spec_l21Out.f k a0 a1 a2) (spec_l21Out.f (k + 1) a0 a1 a2) := by
  intro a0 a1 a2 k
  unfold spec_l21Out.f
  repeat' first
      | (with_reducible exact spec_l21Text.mono _ _ _ _ _)
      | (with_reducible exact LeO.refl _)
      | (with_reducible exact LeO.none _)
      | (with_reducible refine LeO.ite ?_ ?_)
      | (with_reducible refine LeO.bind ?_ (fun _ => ?_))
      | exact spec_l21Text.mono _ _ _ _ _
      | exact LeO.none _
      | refine LeO.ite ?_ ?_
      | refine LeO.bind ?_ (fun _ => ?_)
set_option maxHeartbeats 8000000 in
set_option maxRecDepth 100000 in
theorem spec_l21Out.calls (k : Nat) (a0_0 : ByteArray) (P0_1_ : Nat → Prop) (u9000_ : Value) (l0_1 : List (S68)) (a0_2 : Int) (r1 : Int) (r2 : ByteArray) (r3 : List (S68)) (r4 : Int) (r5 : ByteArray) (w0 w : World) (hB : Below w0.heap.size w0 w) (ho0_1 : Kd.R k68 68 w w0.heap.size P0_1_ u9000_ l0_1) (h : spec_l21Out.f k a0_0 l0_1 a0_2 = some (r1, r2, r3, r4, r5)) :
    Calls Try.prog 78 #[.agg #[.string a0_0, u9000_, .int .i64 a0_2]] w fun e w' => ∃ v2_ : Value, e = .returned (.agg #[.int .i64 r1, .string r2, v2_, .int .i64 r4, .string r5]) ∧ Kd.R k68 68 w' w0.heap.size (fun k_ => (P0_1_ k_ ∨ w.heap.size ≤ k_)) v2_ r3 ∧ Below w0.heap.size w0 w' ∧ Kept w w' (fun k_ => P0_1_ k_) := by
  have hu29 := Try.underlying29
  have hu50 := Try.underlying50
  have HO0_1 := am (show Kd.R k68 68 w w0.heap.size (fun k_ => (P0_1_ k_ ∨ w.heap.size ≤ k_)) u9000_ l0_1 from Kd.R_mono ho0_1 (fun k_ hk => (.inl hk)))
  have HK := am (Kept.refl w (fun k_ => P0_1_ k_))
  have HW0 := am hB.size
  have HB := am hB
  clear hB
  have H : ((spec_l21Text.f k a0_0 l0_1 a0_2 a0_2).bind fun bt227 => (some (0, a0_0, l0_1, a0_2, bt227.1))) = some (r1, r2, r3, r4, r5) := h
  clear h
  replace H := Option.bind_eq_some_iff.mp H
  obtain ⟨⟨t227, t228⟩, A20, H⟩ := H
  replace H : (some (0, a0_0, l0_1, a0_2, t227)) = some (r1, r2, r3, r4, r5) := H
  have A2 := am A20
  clear A20
  simp only [Option.some.injEq, Prod.mk.injEq] at H
  obtain ⟨rfl, rfl, rfl, rfl, rfl⟩ := H
  obtain ⟨Ao3, co3, eo3⟩ := Kd.R_slice HO0_1.out
  subst eo3
  go_enter Try.func78, Try.ntmps78
  go_wp2_with (first | ((with_reducible refine gate_dst (N := 1) rfl ?_); refine bX (N := 1) (cs := #[.string a0_0, .slice Ao3 l0_1.length co3, .int .i64 a0_2]) (t := 29) ?_; intro gb225 hg w4 hbox hb; have BK225 := am (hbox); have GW225 := am ((by rw [hg]; exact (by first | exact HK.out.1 | exact (show Kept w _ (fun k_ => P0_1_ k_) from by repeat (first | (with_reducible first | exact HK.out | apply Kept.alloc | apply Kept.drewN | apply Kept.drew) | exact HK.out)).1) : w.heap.size ≤ gb225)); have GE225 := am ((by rw [hg]; exact (below_size (w := w0) i_) : w0.heap.size ≤ gb225)); replace HO0_1 := am (rB HO0_1.out i_ hb); replace HK := am (Kept.below (S := (fun k_ => P0_1_ k_)) (by repeat (first | (with_reducible first | exact HK.out | apply Kept.alloc | apply Kept.drewN | apply Kept.drew) | exact HK.out)) hb); replace HB := am (below_step (w := w0) i_ hb); clear hb hbox hg) | ((with_reducible refine gate_dst (N := 2) rfl ?_); refine bX (N := 2) (cs := #[.int .i64 0, .string (⟨#[]⟩ : ByteArray), .slice none 0 0, .int .i64 0, .string (⟨#[]⟩ : ByteArray)]) (t := 50) ?_; intro gb226 hg w5 hbox hb; have BK226 := am (hbox); have GW226 := am ((by rw [hg]; exact (by first | exact HK.out.1 | exact (show Kept w _ (fun k_ => P0_1_ k_) from by repeat (first | (with_reducible first | exact HK.out | apply Kept.alloc | apply Kept.drewN | apply Kept.drew | refine Kept.setCell ?_ (.inr GW225.out) _) | exact HK.out)).1) : w.heap.size ≤ gb226)); have GE226 := am ((by rw [hg]; exact (below_size (w := w0) i_) : w0.heap.size ≤ gb226)); have NB225_226 := am ((by rw [hg]; exact Nat.ne_of_lt (blk_lt (g := gb225) (o := .cells #[.string a0_0, .slice Ao3 l0_1.length co3, .int .i64 a0_2] 29 (0, 0)) i_) : gb225 ≠ gb226)); have NB226_225 := am ((by rw [hg]; exact Nat.ne_of_gt (blk_lt (g := gb225) (o := .cells #[.string a0_0, .slice Ao3 l0_1.length co3, .int .i64 a0_2] 29 (0, 0)) i_) : gb226 ≠ gb225)); replace HO0_1 := am (rB HO0_1.out i_ hb); replace BK225 := am (blk_below (g := gb225) (o := .cells #[.string a0_0, .slice Ao3 l0_1.length co3, .int .i64 a0_2] 29 (0, 0)) i_ hb); replace HK := am (Kept.below (S := (fun k_ => P0_1_ k_)) (by repeat (first | (with_reducible first | exact HK.out | apply Kept.alloc | apply Kept.drewN | apply Kept.drew | refine Kept.setCell ?_ (.inr GW225.out) _) | exact HK.out)) hb); replace HB := am (below_step (w := w0) i_ hb); clear hb hbox hg; have hnb6 := NB225_226.out; have hnc6 := NB226_225.out; have hcz7 := bc3 BK225.out) | ((with_reducible refine gate_callee (f := 47) rfl ?_); refine gL (some 9) Try.func47 #[.agg #[.string a0_0, .slice Ao3 l0_1.length co3, .int .i64 a0_2], .int .i64 a0_2] rfl ?_; (with_reducible refine (spec_l21Text.calls k a0_0 _ _ l0_1 a0_2 a0_2 t227 t228 _ ?side1 ?side2 A2.out).mono ?_); (case side1 => repeat (first | exact (Kd.R_reads' HO0_1.out).2.2 | (with_reducible refine Kd.C_alloc ?_ _) | (with_reducible refine Kd.C_drewN ?_ _) | (with_reducible refine Kd.C_drew ?_))); (case side2 => exact (Kd.R_reads' HO0_1.out).2.1); rintro e w8 ⟨rfl, hb⟩; refine ⟨_, rfl, ?_⟩; replace HO0_1 := am (rB HO0_1.out i_ hb); replace BK225 := am (blk_below (g := gb225) (o := .cells #[.string a0_0, .slice Ao3 l0_1.length co3, .int .i64 a0_2] 29 (0, 0)) i_ hb); replace BK226 := am (blk_below (g := gb226) (o := .cells #[.int .i64 0, .string (⟨#[]⟩ : ByteArray), .slice none 0 0, .int .i64 0, .string (⟨#[]⟩ : ByteArray)] 50 (0, 0)) i_ hb); replace HK := am (Kept.below (S := (fun k_ => P0_1_ k_)) (by repeat (first | (with_reducible first | exact HK.out | apply Kept.alloc | apply Kept.drewN | apply Kept.drew | refine Kept.setCell ?_ (.inr GW225.out) _ | refine Kept.setCell ?_ (.inr GW226.out) _) | exact HK.out)) hb); replace HB := am (below_step (w := w0) i_ hb); (try clear hb); (try clear hb2); (try clear hk); (try clear hi); have hcz9 := bc3 BK225.out; have hcz10 := bc5 BK226.out))
  refine bodyPost_ret (results_cell_row rfl _ _ gb226 50 #[.int .i64 0, .string a0_0, .slice Ao3 l0_1.length co3, .int .i64 a0_2, .string t227] (0, 0) _ rfl (by (with_reducible repeat (first | refine blk_drewN ?_ _ | refine blk_drew ?_ | refine blk_alloc ?_ _)); refine blk_put (cs := #[.int .i64 0, .string a0_0, .slice Ao3 l0_1.length co3, .int .i64 a0_2, .string (⟨#[]⟩ : ByteArray)]) ?_ 4 _ rfl; (with_reducible repeat (first | refine blk_drewN ?_ _ | refine blk_drew ?_ | refine blk_alloc ?_ _)); refine blk_put (cs := #[.int .i64 0, .string a0_0, .slice Ao3 l0_1.length co3, .int .i64 0, .string (⟨#[]⟩ : ByteArray)]) ?_ 3 _ rfl; (with_reducible repeat (first | refine blk_drewN ?_ _ | refine blk_drew ?_ | refine blk_alloc ?_ _)); refine blk_put (cs := #[.int .i64 0, .string a0_0, .slice none 0 0, .int .i64 0, .string (⟨#[]⟩ : ByteArray)]) ?_ 2 _ rfl; (with_reducible repeat (first | refine blk_drewN ?_ _ | refine blk_drew ?_ | refine blk_alloc ?_ _)); refine blk_put (cs := #[.int .i64 0, .string (⟨#[]⟩ : ByteArray), .slice none 0 0, .int .i64 0, .string (⟨#[]⟩ : ByteArray)]) ?_ 1 _ rfl; (with_reducible repeat (first | refine blk_drewN ?_ _ | refine blk_drew ?_ | refine blk_alloc ?_ _)); refine blk_put (cs := #[.int .i64 0, .string (⟨#[]⟩ : ByteArray), .slice none 0 0, .int .i64 0, .string (⟨#[]⟩ : ByteArray)]) ?_ 0 _ rfl; (with_reducible repeat (first | refine blk_drewN ?_ _ | refine blk_drew ?_ | refine blk_alloc ?_ _)); exact BK226.out) Try.underlying50 rfl (by kernel_rfl)) rfl ?_
  exact ⟨_, by first | rfl | (simp [errW_none, errW_some] <;> rfl) | (simp [*, errW_none, errW_some] <;> rfl), by (with_reducible repeat (first | apply Kd.R_alloc | apply Kd.R_drewN | apply Kd.R_drew)); exact Kd.R_mono (Kd.R_far (p := ⟨gb226, 4, none⟩) (Kd.R_far (p := ⟨gb226, 3, none⟩) (Kd.R_far (p := ⟨gb226, 2, none⟩) (Kd.R_far (p := ⟨gb226, 1, none⟩) (Kd.R_far (p := ⟨gb226, 0, none⟩) (Kd.R_types HO0_1.out BK226.out (by decide)) (fun _ hk => hk.2) (.int .i64 0)) (fun _ hk => hk.2) (.string a0_0)) (fun _ hk => hk.2) (.slice Ao3 l0_1.length co3)) (fun _ hk => hk.2) (.int .i64 a0_2)) (fun _ hk => hk.2) (.string t227)) (fun _ hk => hk.1), i_, by repeat (first | (with_reducible first | exact HK.out | apply Kept.alloc | apply Kept.drewN | apply Kept.drew | refine Kept.setCell ?_ (.inr GW225.out) _ | refine Kept.setCell ?_ (.inr GW226.out) _) | exact HK.out)⟩

/-! ### spec_l21Go: function 53 -/
def spec_l21Go.f (k : Nat) (a0_0 : ByteArray) (l0_1 : List (S68)) (a0_2 : Int) (a1 : Int) : Option (Int × ByteArray × (List (S68)) × Int × ByteArray) := (spec_HistoryFault.f k a0_0 l0_1 a0_2).bind fun t231 => (if t231 = 0 then ((spec_l21Move.f k a0_0 l0_1 a0_2 a1).bind fun bt232 => (if bt232.2.2.2 = true then ((spec_l21Out.f k bt232.1 bt232.2.1 bt232.2.2.1).bind fun bt239 => (some (bt239.1, bt239.2.1, bt239.2.2.1, bt239.2.2.2.1, bt239.2.2.2.2))) else (some (5, (⟨#[]⟩ : ByteArray), ([] : List (S68)), 0, (⟨#[]⟩ : ByteArray))))) else (some (1, (⟨#[]⟩ : ByteArray), ([] : List (S68)), 0, (⟨#[]⟩ : ByteArray))))
theorem spec_l21Go.mono : ∀ a0 a1 a2 a3 k, LeO (spec_l21Go.f k a0 a1 a2 a3) (spec_l21Go.f (k + 1) a0 a1 a2 a3) := by
  intro a0 a1 a2 a3 k
  unfold spec_l21Go.f
  repeat' first
      | (with_reducible exact spec_HistoryFault.mono _ _ _ _)
      | (with_reducible exact spec_l21Move.mono _ _ _ _ _)
      | (with_reducible exact spec_l21Out.mono _ _ _ _)
      | (with_reducible exact LeO.refl _)
      | (with_reducible exact LeO.none _)
      | (with_reducible refine LeO.ite ?_ ?_)
      | (with_reducible refine LeO.bind ?_ (fun _ => ?_))
      | exact spec_HistoryFault.mono _ _ _ _
      | exact spec_l21Move.mono _ _ _ _ _
      | exact spec_l21Out.mono _ _ _ _
      | exact LeO.none _
      | refine LeO.ite ?_ ?_
      | refine LeO.bind ?_ (fun _ => ?_)
set_option maxHeartbeats 8000000 in
set_option maxRecDepth 100000 in
theorem spec_l21Go.calls (k : Nat) (a0_0 : ByteArray) (A0_1 : Option Addr) (c0_1 : Nat) (l0_1 : List (S68)) (a0_2 : Int) (a1 : Int) (r1 : Int) (r2 : ByteArray) (r3 : List (S68)) (r4 : Int) (r5 : ByteArray) (w : World) (hr0_1 : Kd.C k68 w A0_1 l0_1.length l0_1) (hc0_1 : l0_1.length ≤ c0_1) (h : spec_l21Go.f k a0_0 l0_1 a0_2 a1 = some (r1, r2, r3, r4, r5)) :
    Calls Try.prog 53 #[.agg #[.string a0_0, .slice A0_1 l0_1.length c0_1, .int .i64 a0_2], .int .i64 a1] w fun e w' => ∃ v2_ : Value, e = .returned (.agg #[.int .i64 r1, .string r2, v2_, .int .i64 r4, .string r5]) ∧ Kd.R k68 68 w' w.heap.size (fun _ => True) v2_ r3 ∧ Below w.heap.size w w' := by
  have hu29 := Try.underlying29
  have hu50 := Try.underlying50
  have HR0_1 := am hr0_1
  have HC0_1 := am hc0_1
  clear hr0_1 hc0_1
  have HB := am (Below.refl w.heap.size w)
  have H : ((spec_HistoryFault.f k a0_0 l0_1 a0_2).bind fun t231 => (if t231 = 0 then ((spec_l21Move.f k a0_0 l0_1 a0_2 a1).bind fun bt232 => (if bt232.2.2.2 = true then ((spec_l21Out.f k bt232.1 bt232.2.1 bt232.2.2.1).bind fun bt239 => (some (bt239.1, bt239.2.1, bt239.2.2.1, bt239.2.2.2.1, bt239.2.2.2.2))) else (some (5, (⟨#[]⟩ : ByteArray), ([] : List (S68)), 0, (⟨#[]⟩ : ByteArray))))) else (some (1, (⟨#[]⟩ : ByteArray), ([] : List (S68)), 0, (⟨#[]⟩ : ByteArray))))) = some (r1, r2, r3, r4, r5) := h
  clear h
  replace H := Option.bind_eq_some_iff.mp H
  obtain ⟨t231, A30, H⟩ := H
  replace H : (if t231 = 0 then ((spec_l21Move.f k a0_0 l0_1 a0_2 a1).bind fun bt232 => (if bt232.2.2.2 = true then ((spec_l21Out.f k bt232.1 bt232.2.1 bt232.2.2.1).bind fun bt239 => (some (bt239.1, bt239.2.1, bt239.2.2.1, bt239.2.2.2.1, bt239.2.2.2.2))) else (some (5, (⟨#[]⟩ : ByteArray), ([] : List (S68)), 0, (⟨#[]⟩ : ByteArray))))) else (some (1, (⟨#[]⟩ : ByteArray), ([] : List (S68)), 0, (⟨#[]⟩ : ByteArray)))) = some (r1, r2, r3, r4, r5) := H
  have A3 := am A30
  clear A30
  by_cases c4 : t231 = 0
  · rw [if_pos c4] at H
    have c4b0 : (t231 == 0) = true := beq_iff_eq.mpr c4
    have c4b1 : (t231 != 0) = false := bne_eq_false_iff_eq.mpr c4
    clear c4
    replace H := Option.bind_eq_some_iff.mp H
    obtain ⟨⟨t232, t233, t236, t237⟩, A50, H⟩ := H
    replace H : (if t237 = true then ((spec_l21Out.f k t232 t233 t236).bind fun bt239 => (some (bt239.1, bt239.2.1, bt239.2.2.1, bt239.2.2.2.1, bt239.2.2.2.2))) else (some (5, (⟨#[]⟩ : ByteArray), ([] : List (S68)), 0, (⟨#[]⟩ : ByteArray)))) = some (r1, r2, r3, r4, r5) := H
    have A5 := am A50
    clear A50
    by_cases c6 : t237 = true
    · subst c6
      have H1 : ((spec_l21Out.f k t232 t233 t236).bind fun bt239 => (some (bt239.1, bt239.2.1, bt239.2.2.1, bt239.2.2.2.1, bt239.2.2.2.2))) = some (r1, r2, r3, r4, r5) := by rw [if_pos rfl] at H; exact H
      clear H
      have H := H1
      clear H1
      replace H := Option.bind_eq_some_iff.mp H
      obtain ⟨⟨t239, t240, t241, t244, t245⟩, A70, H⟩ := H
      replace H : (some (t239, t240, t241, t244, t245)) = some (r1, r2, r3, r4, r5) := H
      have A7 := am A70
      clear A70
      simp only [Option.some.injEq, Prod.mk.injEq] at H
      obtain ⟨rfl, rfl, rfl, rfl, rfl⟩ := H
      go_enter Try.func53, Try.ntmps53
      go_wp2_with (first | ((with_reducible refine gate_dst (N := 2) rfl ?_); refine bX (N := 2) (cs := #[.string a0_0, .slice A0_1 l0_1.length c0_1, .int .i64 a0_2]) (t := 29) ?_; intro gb229 hg w8 hbox hb; have BK229 := am (hbox); have GW229 := am ((by rw [hg]; exact (below_size (w := w) i_) : w.heap.size ≤ gb229)); have GE229 := am ((by rw [hg]; exact (below_size (w := w) i_) : w.heap.size ≤ gb229)); replace HB := am (below_step (w := w) i_ hb); clear hb hbox hg) | ((with_reducible refine gate_dst (N := 4) rfl ?_); refine bX (N := 4) (cs := #[.int .i64 0, .string (⟨#[]⟩ : ByteArray), .slice none 0 0, .int .i64 0, .string (⟨#[]⟩ : ByteArray)]) (t := 50) ?_; intro gb230 hg w9 hbox hb; have BK230 := am (hbox); have GW230 := am ((by rw [hg]; exact (below_size (w := w) i_) : w.heap.size ≤ gb230)); have GE230 := am ((by rw [hg]; exact (below_size (w := w) i_) : w.heap.size ≤ gb230)); have NB229_230 := am ((by rw [hg]; exact Nat.ne_of_lt (blk_lt (g := gb229) (o := .cells #[.string a0_0, .slice A0_1 l0_1.length c0_1, .int .i64 a0_2] 29 (0, 0)) i_) : gb229 ≠ gb230)); have NB230_229 := am ((by rw [hg]; exact Nat.ne_of_gt (blk_lt (g := gb229) (o := .cells #[.string a0_0, .slice A0_1 l0_1.length c0_1, .int .i64 a0_2] 29 (0, 0)) i_) : gb230 ≠ gb229)); replace BK229 := am (blk_below (g := gb229) (o := .cells #[.string a0_0, .slice A0_1 l0_1.length c0_1, .int .i64 a0_2] 29 (0, 0)) i_ hb); replace HB := am (below_step (w := w) i_ hb); clear hb hbox hg; have hnb10 := NB229_230.out; have hnc10 := NB230_229.out; have hcz11 := bc3 BK229.out) | ((with_reducible refine gate_callee (f := 13) rfl ?_); refine gL (some 8) Try.func13 #[.agg #[.string a0_0, .slice A0_1 l0_1.length c0_1, .int .i64 a0_2]] rfl ?_; (with_reducible refine (spec_HistoryFault.calls k a0_0 _ _ l0_1 a0_2 t231 _ ?side1 ?side2 A3.out).mono ?_); (case side1 => exact Kd.C_below HR0_1.out i_); (case side2 => exact HC0_1.out); rintro e w12 ⟨rfl, hb⟩; refine ⟨_, rfl, ?_⟩; replace BK229 := am (blk_below (g := gb229) (o := .cells #[.string a0_0, .slice A0_1 l0_1.length c0_1, .int .i64 a0_2] 29 (0, 0)) i_ hb); replace BK230 := am (blk_below (g := gb230) (o := .cells #[.int .i64 0, .string (⟨#[]⟩ : ByteArray), .slice none 0 0, .int .i64 0, .string (⟨#[]⟩ : ByteArray)] 50 (0, 0)) i_ hb); replace HB := am (below_step (w := w) i_ hb); (try clear hb); (try clear hb2); (try clear hk); (try clear hi); have hcz13 := bc3 BK229.out) | ((with_reducible refine gate_callee (f := 77) rfl ?_); refine gL (some 14) Try.func77 #[.agg #[.string a0_0, .slice A0_1 l0_1.length c0_1, .int .i64 a0_2], .int .i64 a1] rfl ?_; (with_reducible refine (spec_l21Move.calls k a0_0 _ _ l0_1 a0_2 a1 t232 t233 t236 true _ ?side1 ?side2 A5.out).mono ?_); (case side1 => exact Kd.C_below HR0_1.out i_); (case side2 => exact HC0_1.out); rintro e w14 ⟨v234, rfl, ho0, hb⟩; refine ⟨_, rfl, ?_⟩; have HO235 := am (Kd.R_lower ho0 (below_size (w := w) i_)); replace BK229 := am (blk_below (g := gb229) (o := .cells #[.string a0_0, .slice A0_1 l0_1.length c0_1, .int .i64 a0_2] 29 (0, 0)) i_ hb); replace BK230 := am (blk_below (g := gb230) (o := .cells #[.int .i64 0, .string (⟨#[]⟩ : ByteArray), .slice none 0 0, .int .i64 0, .string (⟨#[]⟩ : ByteArray)] 50 (0, 0)) i_ hb); replace HB := am (below_step (w := w) i_ hb); (try clear hb); (try clear hb2); (try clear hk); (try clear hi); (try clear ho0)) | ((with_reducible refine gate_dst (N := 5) rfl ?_); refine bX (N := 5) (cs := #[.string (⟨#[]⟩ : ByteArray), .slice none 0 0, .int .i64 0]) (t := 29) ?_; intro gb238 hg w15 hbox hb; have BK238 := am (hbox); have GW238 := am ((by rw [hg]; exact (below_size (w := w) i_) : w.heap.size ≤ gb238)); have GE238 := am ((by rw [hg]; exact (below_size (w := w) i_) : w.heap.size ≤ gb238)); have NB229_238 := am ((by rw [hg]; exact Nat.ne_of_lt (blk_lt (g := gb229) (o := .cells #[.string a0_0, .slice A0_1 l0_1.length c0_1, .int .i64 a0_2] 29 (0, 0)) i_) : gb229 ≠ gb238)); have NB238_229 := am ((by rw [hg]; exact Nat.ne_of_gt (blk_lt (g := gb229) (o := .cells #[.string a0_0, .slice A0_1 l0_1.length c0_1, .int .i64 a0_2] 29 (0, 0)) i_) : gb238 ≠ gb229)); have NB230_238 := am ((by rw [hg]; exact Nat.ne_of_lt (blk_lt (g := gb230) (o := .cells #[.int .i64 0, .string (⟨#[]⟩ : ByteArray), .slice none 0 0, .int .i64 0, .string (⟨#[]⟩ : ByteArray)] 50 (0, 0)) i_) : gb230 ≠ gb238)); have NB238_230 := am ((by rw [hg]; exact Nat.ne_of_gt (blk_lt (g := gb230) (o := .cells #[.int .i64 0, .string (⟨#[]⟩ : ByteArray), .slice none 0 0, .int .i64 0, .string (⟨#[]⟩ : ByteArray)] 50 (0, 0)) i_) : gb238 ≠ gb230)); replace HO235 := am (rB HO235.out i_ hb); replace BK229 := am (blk_below (g := gb229) (o := .cells #[.string a0_0, .slice A0_1 l0_1.length c0_1, .int .i64 a0_2] 29 (0, 0)) i_ hb); replace BK230 := am (blk_below (g := gb230) (o := .cells #[.int .i64 0, .string (⟨#[]⟩ : ByteArray), .slice none 0 0, .int .i64 0, .string (⟨#[]⟩ : ByteArray)] 50 (0, 0)) i_ hb); replace HB := am (below_step (w := w) i_ hb); clear hb hbox hg; have hnb16 := NB238_229.out; have hnc16 := NB229_238.out; have hnb17 := NB238_230.out; have hnc17 := NB230_238.out; have hcz18 := bc3 BK238.out; obtain ⟨Ao19, co19, eo19⟩ := Kd.R_slice HO235.out; subst eo19) | ((with_reducible refine gate_store (t := 29) (p := 5) rfl ?_); refine store_event (t := 29) (p := 5) (v := ?vo_w20) (w1 := (((w15.setCell ⟨gb238, 0, none⟩ (.string t232)).setCell ⟨gb238, 1, none⟩ (.slice Ao19 t233.length co19)).setCell ⟨gb238, 2, none⟩ (.int .i64 t236))) ?hg ?ho ?hn ?hr ?_; (case ho => rfl); (case hg => rfl); (case hn => rfl); (case hr => first | (go_simp; done) | (go_simp; rfl)); intro w20 hw; have n0_ : Fc (Kd.R k68 68 w20 w.heap.size (fun _ => True) (.slice Ao19 t233.length co19) t233) := ⟨(by rw [hw]; exact (by (with_reducible repeat (first | apply Kd.R_alloc | apply Kd.R_drewN | apply Kd.R_drew)); exact Kd.R_mono (Kd.R_far (p := ⟨gb238, 2, none⟩) (Kd.R_far (p := ⟨gb238, 1, none⟩) (Kd.R_far (p := ⟨gb238, 0, none⟩) (Kd.R_types HO235.out BK238.out (by decide)) (fun _ hk => hk.2) (.string t232)) (fun _ hk => hk.2) (.slice Ao19 t233.length co19)) (fun _ hk => hk.2) (.int .i64 t236)) (fun _ hk => trivial)))⟩; have n1_ : Fc (w20.heap[gb229]? = some (.cells #[.string a0_0, .slice A0_1 l0_1.length c0_1, .int .i64 a0_2] 29 (0, 0))) := ⟨(by rw [hw]; exact (by (with_reducible repeat (first | refine blk_drewN ?_ _ | refine blk_drew ?_ | refine blk_alloc ?_ _)); refine blk_far ?_ NB229_238.out _; (with_reducible repeat (first | refine blk_drewN ?_ _ | refine blk_drew ?_ | refine blk_alloc ?_ _)); refine blk_far ?_ NB229_238.out _; (with_reducible repeat (first | refine blk_drewN ?_ _ | refine blk_drew ?_ | refine blk_alloc ?_ _)); refine blk_far ?_ NB229_238.out _; (with_reducible repeat (first | refine blk_drewN ?_ _ | refine blk_drew ?_ | refine blk_alloc ?_ _)); exact BK229.out))⟩; have n2_ : Fc (w20.heap[gb230]? = some (.cells #[.int .i64 0, .string (⟨#[]⟩ : ByteArray), .slice none 0 0, .int .i64 0, .string (⟨#[]⟩ : ByteArray)] 50 (0, 0))) := ⟨(by rw [hw]; exact (by (with_reducible repeat (first | refine blk_drewN ?_ _ | refine blk_drew ?_ | refine blk_alloc ?_ _)); refine blk_far ?_ NB230_238.out _; (with_reducible repeat (first | refine blk_drewN ?_ _ | refine blk_drew ?_ | refine blk_alloc ?_ _)); refine blk_far ?_ NB230_238.out _; (with_reducible repeat (first | refine blk_drewN ?_ _ | refine blk_drew ?_ | refine blk_alloc ?_ _)); refine blk_far ?_ NB230_238.out _; (with_reducible repeat (first | refine blk_drewN ?_ _ | refine blk_drew ?_ | refine blk_alloc ?_ _)); exact BK230.out))⟩; have n3_ : Fc (w20.heap[gb238]? = some (.cells #[.string t232, .slice Ao19 t233.length co19, .int .i64 t236] 29 (0, 0))) := ⟨(by rw [hw]; exact (by (with_reducible repeat (first | refine blk_drewN ?_ _ | refine blk_drew ?_ | refine blk_alloc ?_ _)); refine blk_put (cs := #[.string t232, .slice Ao19 t233.length co19, .int .i64 0]) ?_ 2 _ rfl; (with_reducible repeat (first | refine blk_drewN ?_ _ | refine blk_drew ?_ | refine blk_alloc ?_ _)); refine blk_put (cs := #[.string t232, .slice none 0 0, .int .i64 0]) ?_ 1 _ rfl; (with_reducible repeat (first | refine blk_drewN ?_ _ | refine blk_drew ?_ | refine blk_alloc ?_ _)); refine blk_put (cs := #[.string (⟨#[]⟩ : ByteArray), .slice none 0 0, .int .i64 0]) ?_ 0 _ rfl; (with_reducible repeat (first | refine blk_drewN ?_ _ | refine blk_drew ?_ | refine blk_alloc ?_ _)); exact BK238.out))⟩; have n4_ : Fc (Below w.heap.size w w20) := ⟨(by rw [hw]; exact i_)⟩; clear hw; clear HO235; clear BK229; clear BK230; clear BK238; clear HB; have HO235 := n0_; have BK229 := n1_; have BK230 := n2_; have BK238 := n3_; have HB := n4_; clear n0_ n1_ n2_ n3_ n4_; have hcz21 := bc3 BK238.out) | ((with_reducible refine gate_callee (f := 78) rfl ?_); refine gL (some 21) Try.func78 #[.agg #[.string t232, .slice Ao19 t233.length co19, .int .i64 t236]] rfl ?_; (with_reducible refine (spec_l21Out.calls k t232 (fun k_ => some k_ = (.slice Ao19 t233.length co19 : Value).ownBlock) (.slice Ao19 t233.length co19) t233 t236 t239 t240 t241 t244 t245 w _ ?side1 ?side2 A7.out).mono ?_); (case side1 => exact i_); (case side2 => exact Kd.R_tight rfl HO235.out); rintro e w22 ⟨v242, rfl, ho0, hb, hkp⟩; refine ⟨_, rfl, ?_⟩; have n0_ := am (blk_kept (kB BK229.out i_) hkp (fun hs_ => (fun e_ => (Kd.R_ne HO235.out BK229.out (by decide)) e_) hs_)); have n1_ := am (blk_kept (kB BK230.out i_) hkp (fun hs_ => (fun e_ => (Kd.R_ne HO235.out BK230.out (by decide)) e_) hs_)); have n2_ := am (blk_kept (kB BK238.out i_) hkp (fun hs_ => (fun e_ => (Kd.R_ne HO235.out BK238.out (by decide)) e_) hs_)); have n3_ := am (Kd.R_mono (ok' := fun k_ => True) ho0 (fun k_ hk_ => trivial)); have n4_ := am (hb); clear BK229; clear BK230; clear BK238; clear HB; clear HO235; have BK229 := n0_; have BK230 := n1_; have BK238 := n2_; have HO243 := n3_; have HB := n4_; clear n0_ n1_ n2_ n3_ n4_; (try clear hb); (try clear hkp); (try clear ho0); have hcz23 := bc5 BK230.out; obtain ⟨Ao24, co24, eo24⟩ := Kd.R_slice HO243.out; subst eo24))
      refine bodyPost_ret (results_cell_row rfl _ _ gb230 50 #[.int .i64 t239, .string t240, .slice Ao24 t241.length co24, .int .i64 t244, .string t245] (0, 0) _ rfl (by (with_reducible repeat (first | refine blk_drewN ?_ _ | refine blk_drew ?_ | refine blk_alloc ?_ _)); refine blk_put (cs := #[.int .i64 t239, .string t240, .slice Ao24 t241.length co24, .int .i64 t244, .string (⟨#[]⟩ : ByteArray)]) ?_ 4 _ rfl; (with_reducible repeat (first | refine blk_drewN ?_ _ | refine blk_drew ?_ | refine blk_alloc ?_ _)); refine blk_put (cs := #[.int .i64 t239, .string t240, .slice Ao24 t241.length co24, .int .i64 0, .string (⟨#[]⟩ : ByteArray)]) ?_ 3 _ rfl; (with_reducible repeat (first | refine blk_drewN ?_ _ | refine blk_drew ?_ | refine blk_alloc ?_ _)); refine blk_put (cs := #[.int .i64 t239, .string t240, .slice none 0 0, .int .i64 0, .string (⟨#[]⟩ : ByteArray)]) ?_ 2 _ rfl; (with_reducible repeat (first | refine blk_drewN ?_ _ | refine blk_drew ?_ | refine blk_alloc ?_ _)); refine blk_put (cs := #[.int .i64 t239, .string (⟨#[]⟩ : ByteArray), .slice none 0 0, .int .i64 0, .string (⟨#[]⟩ : ByteArray)]) ?_ 1 _ rfl; (with_reducible repeat (first | refine blk_drewN ?_ _ | refine blk_drew ?_ | refine blk_alloc ?_ _)); refine blk_put (cs := #[.int .i64 0, .string (⟨#[]⟩ : ByteArray), .slice none 0 0, .int .i64 0, .string (⟨#[]⟩ : ByteArray)]) ?_ 0 _ rfl; (with_reducible repeat (first | refine blk_drewN ?_ _ | refine blk_drew ?_ | refine blk_alloc ?_ _)); exact BK230.out) Try.underlying50 rfl (by kernel_rfl)) rfl ?_
      exact ⟨_, by first | rfl | (simp [errW_none, errW_some] <;> rfl) | (simp [*, errW_none, errW_some] <;> rfl), by (with_reducible repeat (first | apply Kd.R_alloc | apply Kd.R_drewN | apply Kd.R_drew)); exact Kd.R_mono (Kd.R_far (p := ⟨gb230, 4, none⟩) (Kd.R_far (p := ⟨gb230, 3, none⟩) (Kd.R_far (p := ⟨gb230, 2, none⟩) (Kd.R_far (p := ⟨gb230, 1, none⟩) (Kd.R_far (p := ⟨gb230, 0, none⟩) (Kd.R_types HO243.out BK230.out (by decide)) (fun _ hk => hk.2) (.int .i64 t239)) (fun _ hk => hk.2) (.string t240)) (fun _ hk => hk.2) (.slice Ao24 t241.length co24)) (fun _ hk => hk.2) (.int .i64 t244)) (fun _ hk => hk.2) (.string t245)) (fun _ hk => trivial), i_⟩
    · replace c6 := Bool.eq_false_iff.mpr c6
      subst c6
      have H1 : (some (5, (⟨#[]⟩ : ByteArray), ([] : List (S68)), 0, (⟨#[]⟩ : ByteArray))) = some (r1, r2, r3, r4, r5) := by rw [if_neg (show ¬ (false = true) by decide)] at H; exact H
      clear H
      have H := H1
      clear H1
      simp only [Option.some.injEq, Prod.mk.injEq] at H
      obtain ⟨rfl, rfl, rfl, rfl, rfl⟩ := H
      go_enter Try.func53, Try.ntmps53
      go_wp2_with (first | ((with_reducible refine gate_dst (N := 2) rfl ?_); refine bX (N := 2) (cs := #[.string a0_0, .slice A0_1 l0_1.length c0_1, .int .i64 a0_2]) (t := 29) ?_; intro gb229 hg w25 hbox hb; have BK229 := am (hbox); have GW229 := am ((by rw [hg]; exact (below_size (w := w) i_) : w.heap.size ≤ gb229)); have GE229 := am ((by rw [hg]; exact (below_size (w := w) i_) : w.heap.size ≤ gb229)); replace HB := am (below_step (w := w) i_ hb); clear hb hbox hg) | ((with_reducible refine gate_dst (N := 4) rfl ?_); refine bX (N := 4) (cs := #[.int .i64 0, .string (⟨#[]⟩ : ByteArray), .slice none 0 0, .int .i64 0, .string (⟨#[]⟩ : ByteArray)]) (t := 50) ?_; intro gb230 hg w26 hbox hb; have BK230 := am (hbox); have GW230 := am ((by rw [hg]; exact (below_size (w := w) i_) : w.heap.size ≤ gb230)); have GE230 := am ((by rw [hg]; exact (below_size (w := w) i_) : w.heap.size ≤ gb230)); have NB229_230 := am ((by rw [hg]; exact Nat.ne_of_lt (blk_lt (g := gb229) (o := .cells #[.string a0_0, .slice A0_1 l0_1.length c0_1, .int .i64 a0_2] 29 (0, 0)) i_) : gb229 ≠ gb230)); have NB230_229 := am ((by rw [hg]; exact Nat.ne_of_gt (blk_lt (g := gb229) (o := .cells #[.string a0_0, .slice A0_1 l0_1.length c0_1, .int .i64 a0_2] 29 (0, 0)) i_) : gb230 ≠ gb229)); replace BK229 := am (blk_below (g := gb229) (o := .cells #[.string a0_0, .slice A0_1 l0_1.length c0_1, .int .i64 a0_2] 29 (0, 0)) i_ hb); replace HB := am (below_step (w := w) i_ hb); clear hb hbox hg; have hnb27 := NB229_230.out; have hnc27 := NB230_229.out; have hcz28 := bc3 BK229.out) | ((with_reducible refine gate_callee (f := 13) rfl ?_); refine gL (some 8) Try.func13 #[.agg #[.string a0_0, .slice A0_1 l0_1.length c0_1, .int .i64 a0_2]] rfl ?_; (with_reducible refine (spec_HistoryFault.calls k a0_0 _ _ l0_1 a0_2 t231 _ ?side1 ?side2 A3.out).mono ?_); (case side1 => exact Kd.C_below HR0_1.out i_); (case side2 => exact HC0_1.out); rintro e w29 ⟨rfl, hb⟩; refine ⟨_, rfl, ?_⟩; replace BK229 := am (blk_below (g := gb229) (o := .cells #[.string a0_0, .slice A0_1 l0_1.length c0_1, .int .i64 a0_2] 29 (0, 0)) i_ hb); replace BK230 := am (blk_below (g := gb230) (o := .cells #[.int .i64 0, .string (⟨#[]⟩ : ByteArray), .slice none 0 0, .int .i64 0, .string (⟨#[]⟩ : ByteArray)] 50 (0, 0)) i_ hb); replace HB := am (below_step (w := w) i_ hb); (try clear hb); (try clear hb2); (try clear hk); (try clear hi); have hcz30 := bc3 BK229.out) | ((with_reducible refine gate_callee (f := 77) rfl ?_); refine gL (some 14) Try.func77 #[.agg #[.string a0_0, .slice A0_1 l0_1.length c0_1, .int .i64 a0_2], .int .i64 a1] rfl ?_; (with_reducible refine (spec_l21Move.calls k a0_0 _ _ l0_1 a0_2 a1 t232 t233 t236 false _ ?side1 ?side2 A5.out).mono ?_); (case side1 => exact Kd.C_below HR0_1.out i_); (case side2 => exact HC0_1.out); rintro e w31 ⟨v234, rfl, ho0, hb⟩; refine ⟨_, rfl, ?_⟩; have HO235 := am (Kd.R_lower ho0 (below_size (w := w) i_)); replace BK229 := am (blk_below (g := gb229) (o := .cells #[.string a0_0, .slice A0_1 l0_1.length c0_1, .int .i64 a0_2] 29 (0, 0)) i_ hb); replace BK230 := am (blk_below (g := gb230) (o := .cells #[.int .i64 0, .string (⟨#[]⟩ : ByteArray), .slice none 0 0, .int .i64 0, .string (⟨#[]⟩ : ByteArray)] 50 (0, 0)) i_ hb); replace HB := am (below_step (w := w) i_ hb); (try clear hb); (try clear hb2); (try clear hk); (try clear hi); (try clear ho0)) | ((with_reducible refine gate_dst (N := 5) rfl ?_); refine bX (N := 5) (cs := #[.string (⟨#[]⟩ : ByteArray), .slice none 0 0, .int .i64 0]) (t := 29) ?_; intro gb238 hg w32 hbox hb; have BK238 := am (hbox); have GW238 := am ((by rw [hg]; exact (below_size (w := w) i_) : w.heap.size ≤ gb238)); have GE238 := am ((by rw [hg]; exact (below_size (w := w) i_) : w.heap.size ≤ gb238)); have NB229_238 := am ((by rw [hg]; exact Nat.ne_of_lt (blk_lt (g := gb229) (o := .cells #[.string a0_0, .slice A0_1 l0_1.length c0_1, .int .i64 a0_2] 29 (0, 0)) i_) : gb229 ≠ gb238)); have NB238_229 := am ((by rw [hg]; exact Nat.ne_of_gt (blk_lt (g := gb229) (o := .cells #[.string a0_0, .slice A0_1 l0_1.length c0_1, .int .i64 a0_2] 29 (0, 0)) i_) : gb238 ≠ gb229)); have NB230_238 := am ((by rw [hg]; exact Nat.ne_of_lt (blk_lt (g := gb230) (o := .cells #[.int .i64 0, .string (⟨#[]⟩ : ByteArray), .slice none 0 0, .int .i64 0, .string (⟨#[]⟩ : ByteArray)] 50 (0, 0)) i_) : gb230 ≠ gb238)); have NB238_230 := am ((by rw [hg]; exact Nat.ne_of_gt (blk_lt (g := gb230) (o := .cells #[.int .i64 0, .string (⟨#[]⟩ : ByteArray), .slice none 0 0, .int .i64 0, .string (⟨#[]⟩ : ByteArray)] 50 (0, 0)) i_) : gb238 ≠ gb230)); replace HO235 := am (rB HO235.out i_ hb); replace BK229 := am (blk_below (g := gb229) (o := .cells #[.string a0_0, .slice A0_1 l0_1.length c0_1, .int .i64 a0_2] 29 (0, 0)) i_ hb); replace BK230 := am (blk_below (g := gb230) (o := .cells #[.int .i64 0, .string (⟨#[]⟩ : ByteArray), .slice none 0 0, .int .i64 0, .string (⟨#[]⟩ : ByteArray)] 50 (0, 0)) i_ hb); replace HB := am (below_step (w := w) i_ hb); clear hb hbox hg; have hnb33 := NB238_229.out; have hnc33 := NB229_238.out; have hnb34 := NB238_230.out; have hnc34 := NB230_238.out; have hcz35 := bc3 BK238.out; obtain ⟨Ao36, co36, eo36⟩ := Kd.R_slice HO235.out; subst eo36; have hcz37 := bc5 BK230.out))
      refine bodyPost_ret (results_cell_row rfl _ _ gb230 50 #[.int .i64 5, .string (⟨#[]⟩ : ByteArray), .slice none 0 0, .int .i64 0, .string (⟨#[]⟩ : ByteArray)] (0, 0) _ rfl (by (with_reducible repeat (first | refine blk_drewN ?_ _ | refine blk_drew ?_ | refine blk_alloc ?_ _)); refine blk_put (cs := #[.int .i64 5, .string (⟨#[]⟩ : ByteArray), .slice none 0 0, .int .i64 0, .string (⟨#[]⟩ : ByteArray)]) ?_ 4 _ rfl; (with_reducible repeat (first | refine blk_drewN ?_ _ | refine blk_drew ?_ | refine blk_alloc ?_ _)); refine blk_put (cs := #[.int .i64 5, .string (⟨#[]⟩ : ByteArray), .slice none 0 0, .int .i64 0, .string (⟨#[]⟩ : ByteArray)]) ?_ 3 _ rfl; (with_reducible repeat (first | refine blk_drewN ?_ _ | refine blk_drew ?_ | refine blk_alloc ?_ _)); refine blk_put (cs := #[.int .i64 5, .string (⟨#[]⟩ : ByteArray), .slice none 0 0, .int .i64 0, .string (⟨#[]⟩ : ByteArray)]) ?_ 2 _ rfl; (with_reducible repeat (first | refine blk_drewN ?_ _ | refine blk_drew ?_ | refine blk_alloc ?_ _)); refine blk_put (cs := #[.int .i64 5, .string (⟨#[]⟩ : ByteArray), .slice none 0 0, .int .i64 0, .string (⟨#[]⟩ : ByteArray)]) ?_ 1 _ rfl; (with_reducible repeat (first | refine blk_drewN ?_ _ | refine blk_drew ?_ | refine blk_alloc ?_ _)); refine blk_put (cs := #[.int .i64 0, .string (⟨#[]⟩ : ByteArray), .slice none 0 0, .int .i64 0, .string (⟨#[]⟩ : ByteArray)]) ?_ 0 _ rfl; (with_reducible repeat (first | refine blk_drewN ?_ _ | refine blk_drew ?_ | refine blk_alloc ?_ _)); refine blk_far ?_ NB230_238.out _; (with_reducible repeat (first | refine blk_drewN ?_ _ | refine blk_drew ?_ | refine blk_alloc ?_ _)); refine blk_far ?_ NB230_238.out _; (with_reducible repeat (first | refine blk_drewN ?_ _ | refine blk_drew ?_ | refine blk_alloc ?_ _)); refine blk_far ?_ NB230_238.out _; (with_reducible repeat (first | refine blk_drewN ?_ _ | refine blk_drew ?_ | refine blk_alloc ?_ _)); exact BK230.out) Try.underlying50 rfl (by kernel_rfl)) rfl ?_
      exact ⟨_, by first | rfl | (simp [errW_none, errW_some] <;> rfl) | (simp [*, errW_none, errW_some] <;> rfl), by first | exact Kd.R_nil _ _ _ _ _ | exact Kd.N_nil _ _ _ _ _ | exact Kd.V_nil _ _ _ _ _ | exact Kd.Q_nil _ _ _ _ _ | exact Kd.S_nil _ _ _ _ _, i_⟩
  · rw [if_neg c4] at H
    have c4b0 : (t231 == 0) = false := beq_eq_false_iff_ne.mpr c4
    have c4b1 : (t231 != 0) = true := bne_iff_ne.mpr c4
    simp only [Option.some.injEq, Prod.mk.injEq] at H
    obtain ⟨rfl, rfl, rfl, rfl, rfl⟩ := H
    go_enter Try.func53, Try.ntmps53
    go_wp2_with (first | ((with_reducible refine gate_dst (N := 2) rfl ?_); refine bX (N := 2) (cs := #[.string a0_0, .slice A0_1 l0_1.length c0_1, .int .i64 a0_2]) (t := 29) ?_; intro gb229 hg w38 hbox hb; have BK229 := am (hbox); have GW229 := am ((by rw [hg]; exact (below_size (w := w) i_) : w.heap.size ≤ gb229)); have GE229 := am ((by rw [hg]; exact (below_size (w := w) i_) : w.heap.size ≤ gb229)); replace HB := am (below_step (w := w) i_ hb); clear hb hbox hg) | ((with_reducible refine gate_dst (N := 4) rfl ?_); refine bX (N := 4) (cs := #[.int .i64 0, .string (⟨#[]⟩ : ByteArray), .slice none 0 0, .int .i64 0, .string (⟨#[]⟩ : ByteArray)]) (t := 50) ?_; intro gb230 hg w39 hbox hb; have BK230 := am (hbox); have GW230 := am ((by rw [hg]; exact (below_size (w := w) i_) : w.heap.size ≤ gb230)); have GE230 := am ((by rw [hg]; exact (below_size (w := w) i_) : w.heap.size ≤ gb230)); have NB229_230 := am ((by rw [hg]; exact Nat.ne_of_lt (blk_lt (g := gb229) (o := .cells #[.string a0_0, .slice A0_1 l0_1.length c0_1, .int .i64 a0_2] 29 (0, 0)) i_) : gb229 ≠ gb230)); have NB230_229 := am ((by rw [hg]; exact Nat.ne_of_gt (blk_lt (g := gb229) (o := .cells #[.string a0_0, .slice A0_1 l0_1.length c0_1, .int .i64 a0_2] 29 (0, 0)) i_) : gb230 ≠ gb229)); replace BK229 := am (blk_below (g := gb229) (o := .cells #[.string a0_0, .slice A0_1 l0_1.length c0_1, .int .i64 a0_2] 29 (0, 0)) i_ hb); replace HB := am (below_step (w := w) i_ hb); clear hb hbox hg; have hnb40 := NB229_230.out; have hnc40 := NB230_229.out; have hcz41 := bc3 BK229.out) | ((with_reducible refine gate_callee (f := 13) rfl ?_); refine gL (some 8) Try.func13 #[.agg #[.string a0_0, .slice A0_1 l0_1.length c0_1, .int .i64 a0_2]] rfl ?_; (with_reducible refine (spec_HistoryFault.calls k a0_0 _ _ l0_1 a0_2 t231 _ ?side1 ?side2 A3.out).mono ?_); (case side1 => exact Kd.C_below HR0_1.out i_); (case side2 => exact HC0_1.out); rintro e w42 ⟨rfl, hb⟩; refine ⟨_, rfl, ?_⟩; replace BK229 := am (blk_below (g := gb229) (o := .cells #[.string a0_0, .slice A0_1 l0_1.length c0_1, .int .i64 a0_2] 29 (0, 0)) i_ hb); replace BK230 := am (blk_below (g := gb230) (o := .cells #[.int .i64 0, .string (⟨#[]⟩ : ByteArray), .slice none 0 0, .int .i64 0, .string (⟨#[]⟩ : ByteArray)] 50 (0, 0)) i_ hb); replace HB := am (below_step (w := w) i_ hb); (try clear hb); (try clear hb2); (try clear hk); (try clear hi); have hcz43 := bc5 BK230.out))
    refine bodyPost_ret (results_cell_row rfl _ _ gb230 50 #[.int .i64 1, .string (⟨#[]⟩ : ByteArray), .slice none 0 0, .int .i64 0, .string (⟨#[]⟩ : ByteArray)] (0, 0) _ rfl (by (with_reducible repeat (first | refine blk_drewN ?_ _ | refine blk_drew ?_ | refine blk_alloc ?_ _)); refine blk_put (cs := #[.int .i64 1, .string (⟨#[]⟩ : ByteArray), .slice none 0 0, .int .i64 0, .string (⟨#[]⟩ : ByteArray)]) ?_ 4 _ rfl; (with_reducible repeat (first | refine blk_drewN ?_ _ | refine blk_drew ?_ | refine blk_alloc ?_ _)); refine blk_put (cs := #[.int .i64 1, .string (⟨#[]⟩ : ByteArray), .slice none 0 0, .int .i64 0, .string (⟨#[]⟩ : ByteArray)]) ?_ 3 _ rfl; (with_reducible repeat (first | refine blk_drewN ?_ _ | refine blk_drew ?_ | refine blk_alloc ?_ _)); refine blk_put (cs := #[.int .i64 1, .string (⟨#[]⟩ : ByteArray), .slice none 0 0, .int .i64 0, .string (⟨#[]⟩ : ByteArray)]) ?_ 2 _ rfl; (with_reducible repeat (first | refine blk_drewN ?_ _ | refine blk_drew ?_ | refine blk_alloc ?_ _)); refine blk_put (cs := #[.int .i64 1, .string (⟨#[]⟩ : ByteArray), .slice none 0 0, .int .i64 0, .string (⟨#[]⟩ : ByteArray)]) ?_ 1 _ rfl; (with_reducible repeat (first | refine blk_drewN ?_ _ | refine blk_drew ?_ | refine blk_alloc ?_ _)); refine blk_put (cs := #[.int .i64 0, .string (⟨#[]⟩ : ByteArray), .slice none 0 0, .int .i64 0, .string (⟨#[]⟩ : ByteArray)]) ?_ 0 _ rfl; (with_reducible repeat (first | refine blk_drewN ?_ _ | refine blk_drew ?_ | refine blk_alloc ?_ _)); exact BK230.out) Try.underlying50 rfl (by kernel_rfl)) rfl ?_
    exact ⟨_, by first | rfl | (simp [errW_none, errW_some] <;> rfl) | (simp [*, errW_none, errW_some] <;> rfl), by first | exact Kd.R_nil _ _ _ _ _ | exact Kd.N_nil _ _ _ _ _ | exact Kd.V_nil _ _ _ _ _ | exact Kd.Q_nil _ _ _ _ _ | exact Kd.S_nil _ _ _ _ _, i_⟩

/-! ### spec_Undo: function 29 -/
def spec_Undo.f (k : Nat) (a0_0 : ByteArray) (l0_1 : List (S68)) (a0_2 : Int) : Option (Int × ByteArray × (List (S68)) × Int × ByteArray) := (spec_l21Go.f k a0_0 l0_1 a0_2 (-1)).bind fun bt248 => (some (bt248.1, bt248.2.1, bt248.2.2.1, bt248.2.2.2.1, bt248.2.2.2.2))
theorem spec_Undo.mono : ∀ a0 a1 a2 k, LeO (spec_Undo.f k a0 a1 a2) (spec_Undo.f (k + 1) a0 a1 a2) := by
  intro a0 a1 a2 k
  unfold spec_Undo.f
  repeat' first
      | (with_reducible exact spec_l21Go.mono _ _ _ _ _)
      | (with_reducible exact LeO.refl _)
      | (with_reducible exact LeO.none _)
      | (with_reducible refine LeO.ite ?_ ?_)
      | (with_reducible refine LeO.bind ?_ (fun _ => ?_))
      | exact spec_l21Go.mono _ _ _ _ _
      | exact LeO.none _
      | refine LeO.ite ?_ ?_
      | refine LeO.bind ?_ (fun _ => ?_)
set_option maxHeartbeats 8000000 in
set_option maxRecDepth 100000 in
theorem spec_Undo.calls (k : Nat) (a0_0 : ByteArray) (A0_1 : Option Addr) (c0_1 : Nat) (l0_1 : List (S68)) (a0_2 : Int) (r1 : Int) (r2 : ByteArray) (r3 : List (S68)) (r4 : Int) (r5 : ByteArray) (w : World) (hr0_1 : Kd.C k68 w A0_1 l0_1.length l0_1) (hc0_1 : l0_1.length ≤ c0_1) (h : spec_Undo.f k a0_0 l0_1 a0_2 = some (r1, r2, r3, r4, r5)) :
    Calls Try.prog 29 #[.agg #[.string a0_0, .slice A0_1 l0_1.length c0_1, .int .i64 a0_2]] w fun e w' => ∃ v2_ : Value, e = .returned (.agg #[.int .i64 r1, .string r2, v2_, .int .i64 r4, .string r5]) ∧ Kd.R k68 68 w' w.heap.size (fun _ => True) v2_ r3 ∧ Below w.heap.size w w' := by
  have hu29 := Try.underlying29
  have hu50 := Try.underlying50
  have HR0_1 := am hr0_1
  have HC0_1 := am hc0_1
  clear hr0_1 hc0_1
  have HB := am (Below.refl w.heap.size w)
  have H : ((spec_l21Go.f k a0_0 l0_1 a0_2 (-1)).bind fun bt248 => (some (bt248.1, bt248.2.1, bt248.2.2.1, bt248.2.2.2.1, bt248.2.2.2.2))) = some (r1, r2, r3, r4, r5) := h
  clear h
  replace H := Option.bind_eq_some_iff.mp H
  obtain ⟨⟨t248, t249, t250, t253, t254⟩, A20, H⟩ := H
  replace H : (some (t248, t249, t250, t253, t254)) = some (r1, r2, r3, r4, r5) := H
  have A2 := am A20
  clear A20
  simp only [Option.some.injEq, Prod.mk.injEq] at H
  obtain ⟨rfl, rfl, rfl, rfl, rfl⟩ := H
  go_enter Try.func29, Try.ntmps29
  go_wp2_with (first | ((with_reducible refine gate_dst (N := 1) rfl ?_); refine bX (N := 1) (cs := #[.string a0_0, .slice A0_1 l0_1.length c0_1, .int .i64 a0_2]) (t := 29) ?_; intro gb246 hg w3 hbox hb; have BK246 := am (hbox); have GW246 := am ((by rw [hg]; exact (below_size (w := w) i_) : w.heap.size ≤ gb246)); have GE246 := am ((by rw [hg]; exact (below_size (w := w) i_) : w.heap.size ≤ gb246)); replace HB := am (below_step (w := w) i_ hb); clear hb hbox hg) | ((with_reducible refine gate_dst (N := 2) rfl ?_); refine bX (N := 2) (cs := #[.int .i64 0, .string (⟨#[]⟩ : ByteArray), .slice none 0 0, .int .i64 0, .string (⟨#[]⟩ : ByteArray)]) (t := 50) ?_; intro gb247 hg w4 hbox hb; have BK247 := am (hbox); have GW247 := am ((by rw [hg]; exact (below_size (w := w) i_) : w.heap.size ≤ gb247)); have GE247 := am ((by rw [hg]; exact (below_size (w := w) i_) : w.heap.size ≤ gb247)); have NB246_247 := am ((by rw [hg]; exact Nat.ne_of_lt (blk_lt (g := gb246) (o := .cells #[.string a0_0, .slice A0_1 l0_1.length c0_1, .int .i64 a0_2] 29 (0, 0)) i_) : gb246 ≠ gb247)); have NB247_246 := am ((by rw [hg]; exact Nat.ne_of_gt (blk_lt (g := gb246) (o := .cells #[.string a0_0, .slice A0_1 l0_1.length c0_1, .int .i64 a0_2] 29 (0, 0)) i_) : gb247 ≠ gb246)); replace BK246 := am (blk_below (g := gb246) (o := .cells #[.string a0_0, .slice A0_1 l0_1.length c0_1, .int .i64 a0_2] 29 (0, 0)) i_ hb); replace HB := am (below_step (w := w) i_ hb); clear hb hbox hg; have hnb5 := NB246_247.out; have hnc5 := NB247_246.out; have hcz6 := bc3 BK246.out) | ((with_reducible refine gate_callee (f := 53) rfl ?_); refine gL (some 4) Try.func53 #[.agg #[.string a0_0, .slice A0_1 l0_1.length c0_1, .int .i64 a0_2], .int .i64 (-1)] rfl ?_; (with_reducible refine (spec_l21Go.calls k a0_0 _ _ l0_1 a0_2 (-1) t248 t249 t250 t253 t254 _ ?side1 ?side2 A2.out).mono ?_); (case side1 => exact Kd.C_below HR0_1.out i_); (case side2 => exact HC0_1.out); rintro e w7 ⟨v251, rfl, ho0, hb⟩; refine ⟨_, rfl, ?_⟩; have HO252 := am (Kd.R_lower ho0 (below_size (w := w) i_)); replace BK246 := am (blk_below (g := gb246) (o := .cells #[.string a0_0, .slice A0_1 l0_1.length c0_1, .int .i64 a0_2] 29 (0, 0)) i_ hb); replace BK247 := am (blk_below (g := gb247) (o := .cells #[.int .i64 0, .string (⟨#[]⟩ : ByteArray), .slice none 0 0, .int .i64 0, .string (⟨#[]⟩ : ByteArray)] 50 (0, 0)) i_ hb); replace HB := am (below_step (w := w) i_ hb); (try clear hb); (try clear hb2); (try clear hk); (try clear hi); (try clear ho0); have hcz8 := bc5 BK247.out; obtain ⟨Ao9, co9, eo9⟩ := Kd.R_slice HO252.out; subst eo9))
  refine bodyPost_ret (results_cell_row rfl _ _ gb247 50 #[.int .i64 t248, .string t249, .slice Ao9 t250.length co9, .int .i64 t253, .string t254] (0, 0) _ rfl (by (with_reducible repeat (first | refine blk_drewN ?_ _ | refine blk_drew ?_ | refine blk_alloc ?_ _)); refine blk_put (cs := #[.int .i64 t248, .string t249, .slice Ao9 t250.length co9, .int .i64 t253, .string (⟨#[]⟩ : ByteArray)]) ?_ 4 _ rfl; (with_reducible repeat (first | refine blk_drewN ?_ _ | refine blk_drew ?_ | refine blk_alloc ?_ _)); refine blk_put (cs := #[.int .i64 t248, .string t249, .slice Ao9 t250.length co9, .int .i64 0, .string (⟨#[]⟩ : ByteArray)]) ?_ 3 _ rfl; (with_reducible repeat (first | refine blk_drewN ?_ _ | refine blk_drew ?_ | refine blk_alloc ?_ _)); refine blk_put (cs := #[.int .i64 t248, .string t249, .slice none 0 0, .int .i64 0, .string (⟨#[]⟩ : ByteArray)]) ?_ 2 _ rfl; (with_reducible repeat (first | refine blk_drewN ?_ _ | refine blk_drew ?_ | refine blk_alloc ?_ _)); refine blk_put (cs := #[.int .i64 t248, .string (⟨#[]⟩ : ByteArray), .slice none 0 0, .int .i64 0, .string (⟨#[]⟩ : ByteArray)]) ?_ 1 _ rfl; (with_reducible repeat (first | refine blk_drewN ?_ _ | refine blk_drew ?_ | refine blk_alloc ?_ _)); refine blk_put (cs := #[.int .i64 0, .string (⟨#[]⟩ : ByteArray), .slice none 0 0, .int .i64 0, .string (⟨#[]⟩ : ByteArray)]) ?_ 0 _ rfl; (with_reducible repeat (first | refine blk_drewN ?_ _ | refine blk_drew ?_ | refine blk_alloc ?_ _)); exact BK247.out) Try.underlying50 rfl (by kernel_rfl)) rfl ?_
  exact ⟨_, by first | rfl | (simp [errW_none, errW_some] <;> rfl) | (simp [*, errW_none, errW_some] <;> rfl), by (with_reducible repeat (first | apply Kd.R_alloc | apply Kd.R_drewN | apply Kd.R_drew)); exact Kd.R_mono (Kd.R_far (p := ⟨gb247, 4, none⟩) (Kd.R_far (p := ⟨gb247, 3, none⟩) (Kd.R_far (p := ⟨gb247, 2, none⟩) (Kd.R_far (p := ⟨gb247, 1, none⟩) (Kd.R_far (p := ⟨gb247, 0, none⟩) (Kd.R_types HO252.out BK247.out (by decide)) (fun _ hk => hk.2) (.int .i64 t248)) (fun _ hk => hk.2) (.string t249)) (fun _ hk => hk.2) (.slice Ao9 t250.length co9)) (fun _ hk => hk.2) (.int .i64 t253)) (fun _ hk => hk.2) (.string t254)) (fun _ hk => trivial), i_⟩

/-! ### impl_Step: function 54 -/
def impl_Step.f (l0 : List (S68)) : Option (List (S68)) := if l0.length < 2932031007402 then some l0 else none
set_option maxHeartbeats 4000000 in
set_option maxRecDepth 100000 in
theorem impl_Step.calls (A0 : Option Addr) (c0 : Nat) (l0 : List (S68)) (r : List (S68)) (w : World) (hr0 : Kd.C k68 w A0 l0.length l0) (hc0 : l0.length ≤ c0) (h : impl_Step.f l0 = some r) :
    Calls Try.prog 54 #[.slice A0 l0.length c0] w fun e w' => ∃ v0_ : Value, e = .returned (v0_) ∧ Kd.R k68 68 w' w.heap.size (fun _ => True) v0_ r ∧ Below w.heap.size w w' := by
  unfold impl_Step.f at h
  split at h
  · rename_i hlim
    obtain rfl := Option.some.inj h
    clear h
    have hs : ∀ (W : World) (a_ : Option Addr) (n_ c_ : Nat), (binOp .eql 27 (.slice a_ n_ c_) (.slice none 0 0)).run Try.prog W = .ok (.bool (a_.isNone)) W := eql_nil Try.underlying27
    have LM := am hlim
    have HR := am hr0
    clear hlim hr0 hc0
    cases A0 with
    | none =>
      have h0 : l0 = [] := by
        rcases Nat.eq_zero_or_pos l0.length with h | h
        · exact List.eq_nil_of_length_eq_zero h
        · obtain ⟨_, h, _⟩ := HR.out.2.2 h
          cases h
      subst h0
      go_enter Try.func54, Try.ntmps54
      go_wp2
      go_ret
      exact ⟨_, rfl, Kd.R_nil _ _ _ _ _, Below.refl _ _⟩
    | some ad =>
      go_enter Try.func54, Try.ntmps54
      go_wp2_with (first | ((with_reducible refine gate_dst (N := 5) rfl ?_); (try (refine gate_guard (by rfl) ?_; dsimp only)); refine Kd.R_lit k68 _ 68 ?hg (N := 5) ?hd (xs := ([] : List (S68))) (inner := []) (ok := fun _ => True) (okp := fun _ => True) ?hr ?hp (fun _ hk => hk) trivial (Below.refl _ _) (Nat.le_refl _) (by simp) ?_; (case hd => rfl); (case hg => rfl); (case hr => first | (go_simp; done) | (go_simp; rfl)); (case hp => exact (Reps.none _ _)); intro v1 w1 ho1 hb hg_ hnew_; clear hg_ hnew_; have HO1 := am ho1; have HB1 := am hb; clear ho1 hb) | ((with_reducible refine gate_builtin (b := .append) (xs := #[.tmp 5, .tmp 6]) rfl ?_); (try (refine gate_guard (by rfl) ?_; dsimp only)); at_builtin; refine Kd.R_append_rows k68 (w0 := w) w.heap.size rfl (.tmp 5) (.tmp 6) 27 68 (.agg #[(.int .i64 0), (.string ⟨#[]⟩), (.string ⟨#[]⟩), (.int .i64 0)]) 48 rfl Try.underlying27 info68 rfl (by decide) (by omega) v1 [] l0 _ _ _ (fun _ => True) (fun _ => False) rfl rfl ?aO ?aR (fun _ _ h => h) (fun _ h => h.elim) ?aF ?aB ?aS ?aL ?_; (case aR => exact (Kd.C_below HR.out HB1.out)); (case aB => exact HB1.out); (case aF => exact (fun _ _ => trivial)); (case aO => exact HO1.out); (case aS => exact (below_size HB1.out)); (case aL => have := LM.out; simp; omega); intro v2 w2 ho2 hb2 hg2 hat2; have HO2 := am ho2; have HB2 := am hb2; clear ho2 hb2 hg2 hat2))
      go_ret
      exact ⟨_, rfl, by simpa using HO2.out, HB2.out⟩
  · cases h

end Go.Proofs.Ytopbiepiceajnaa.Q
