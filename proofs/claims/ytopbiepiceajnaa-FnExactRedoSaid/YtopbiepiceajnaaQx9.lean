-- Written by xprint.py (wip/ of this repository): one Lean function and its proof for each Go function.
import Derived.Test.YtopbiepiceajnaaQx0
import Derived.Test.YtopbiepiceajnaaQx3
import Derived.Test.YtopbiepiceajnaaQx5
namespace Go.Proofs.Ytopbiepiceajnaa.Q
open Go.RowKit Go.Proofs.YtopbiepiceajnaaW.PrintWords Go.Proofs.YtopbiepiceajnaaW.PrintLast Go.Proofs.YtopbiepiceajnaaW.PrintMore
attribute [local go_sem] max2_int min2_int max_two min_two max_three min_three max_four min_four   -- for this text's walks alone
set_option linter.unusedVariables false
set_option linter.unusedSimpArgs false

/-! ### impl_Redo: function 36 -/
def impl_Redo.l0 : Nat → List ByteArray → Int → Int → ByteArray → List (S68) → Int → Option (Int × ByteArray × (List (S68)) × Int × ByteArray)
  | 0, _, _, _, _, _, _ => none
  | k + 1, x3, x4, x5, x369000, x369001, x369002 => if x5 > 0 then (if x4 < (x369001.length : Int) then (if 0 ≤ x4 then (if ((rd_T68 x369001 x4).f3) = x5 then (impl_Redo.l0 k x3 (wrap64 (x4 + 1)) x5 x369000 x369001 x369002) else ((impl_Step.f x369001).bind fun t375 => (if x4 < (x3.length : Int) then (some (0, x369000, t375, x4, rdOf ByteArray.empty x3 x4)) else (none)))) else (none)) else ((impl_Step.f x369001).bind fun t379 => (if 0 ≤ x4 then (if x4 < (x3.length : Int) then (some (0, x369000, t379, x4, rdOf ByteArray.empty x3 x4)) else (none)) else (none)))) else ((impl_Step.f x369001).bind fun t383 => (if 0 ≤ x4 then (if x4 < (x3.length : Int) then (some (0, x369000, t383, x4, rdOf ByteArray.empty x3 x4)) else (none)) else (none)))
def impl_Redo.f (k : Nat) (a0_0 : ByteArray) (l0_1 : List (S68)) (a0_2 : Int) : Option (Int × ByteArray × (List (S68)) × Int × ByteArray) := (impl_texts.f k a0_0 l0_1 a0_2).bind fun t370 => (if (t370.length : Int) = 0 then (some (1, (⟨#[]⟩ : ByteArray), ([] : List (S68)), 0, (⟨#[]⟩ : ByteArray))) else (if a0_2 = (l0_1.length : Int) then (some (5, (⟨#[]⟩ : ByteArray), ([] : List (S68)), 0, (⟨#[]⟩ : ByteArray))) else (if 0 ≤ a0_2 then (if a0_2 < (l0_1.length : Int) then (impl_Redo.l0 k t370 (wrap64 (a0_2 + 1)) ((rd_T68 l0_1 a0_2).f3) a0_0 l0_1 a0_2) else (none)) else (none))))
theorem impl_Redo.mono_l : ∀ k, (∀ y0 y1 y2 y3 y4 y5, LeO (impl_Redo.l0 k y0 y1 y2 y3 y4 y5) (impl_Redo.l0 (k + 1) y0 y1 y2 y3 y4 y5))
  | 0 => fun _ _ _ _ _ _ r h => by simp [impl_Redo.l0] at h
  | k + 1 => by
    have ih0 := impl_Redo.mono_l k
    · intro y0 y1 y2 y3 y4 y5
      unfold impl_Redo.l0
      repeat' first
      | (with_reducible exact ih0 _ _ _ _ _ _)
      | (with_reducible exact impl_texts.mono _ _ _ _)
      | (with_reducible exact LeO.refl _)
      | (with_reducible exact LeO.none _)
      | (with_reducible refine LeO.ite ?_ ?_)
      | (with_reducible refine LeO.bind ?_ (fun _ => ?_))
      | exact ih0 _ _ _ _ _ _
      | exact impl_texts.mono _ _ _ _
      | exact LeO.none _
      | refine LeO.ite ?_ ?_
      | refine LeO.bind ?_ (fun _ => ?_)
theorem impl_Redo.mono : ∀ a0 a1 a2 k, LeO (impl_Redo.f k a0 a1 a2) (impl_Redo.f (k + 1) a0 a1 a2) := by
  intro a0 a1 a2 k
  have ih0 := impl_Redo.mono_l k
  unfold impl_Redo.f
  repeat' first
      | (with_reducible exact ih0 _ _ _ _ _ _)
      | (with_reducible exact impl_texts.mono _ _ _ _)
      | (with_reducible exact LeO.refl _)
      | (with_reducible exact LeO.none _)
      | (with_reducible refine LeO.ite ?_ ?_)
      | (with_reducible refine LeO.bind ?_ (fun _ => ?_))
      | exact ih0 _ _ _ _ _ _
      | exact impl_texts.mono _ _ _ _
      | exact LeO.none _
      | refine LeO.ite ?_ ?_
      | refine LeO.bind ?_ (fun _ => ?_)
def impl_Redo.T11 : Bool × List (List Nat × List Nat) := (true, [([], []), ([0], [0]), ([], []), ([2], [2]), ([3], [3]), ([], []), ([1, 4, 5], [1, 4, 5]), ([], []), ([], []), ([7, 8], [7, 8]), ([9], [9]), ([6, 10], [6, 10]), ([11, 4, 0, 1, 2, 3, 4, 5, 6, 7, 8, 9, 10, 11], [11])])
def impl_Redo.B11 : List Nat := [0, 1, 0, 4, 12, 0, 63, 0, 0, 384, 896, 2047, 4095]
theorem impl_Redo.tab11 : rtab .any (opsOf Try.f36 11) = impl_Redo.T11 := by kernel_rfl
theorem impl_Redo.bits11 : waitsOk impl_Redo.T11.2 impl_Redo.B11 = true := by kernel_rfl
set_option maxHeartbeats 8000000 in
set_option maxRecDepth 100000 in
theorem impl_Redo.calls (k : Nat) (a0_0 : ByteArray) (A0_1 : Option Addr) (c0_1 : Nat) (l0_1 : List (S68)) (a0_2 : Int) (r1 : Int) (r2 : ByteArray) (r3 : List (S68)) (r4 : Int) (r5 : ByteArray) (w : World) (hr0_1 : Kd.C k68 w A0_1 l0_1.length l0_1) (hc0_1 : l0_1.length ≤ c0_1) (h : impl_Redo.f k a0_0 l0_1 a0_2 = some (r1, r2, r3, r4, r5)) :
    Calls Try.prog 36 #[.agg #[.string a0_0, .slice A0_1 l0_1.length c0_1, .int .i64 a0_2]] w fun e w' => ∃ v2_ : Value, e = .returned (.agg #[.int .i64 r1, .string r2, v2_, .int .i64 r4, .string r5]) ∧ Kd.R k68 68 w' w.heap.size (fun _ => True) v2_ r3 ∧ Below w.heap.size w w' := by
  have hu29 := Try.underlying29
  have hu50 := Try.underlying50
  have hseql35 : ∀ (W : World) (a_ : Option Addr) (n_ c_ : Nat), (binOp .eql 35 (.slice a_ n_ c_) (.slice none 0 0)).run Try.prog W = .ok (.bool (a_.isNone)) W := eql_nil Try.underlying35
  have HR0_1 := am hr0_1
  have HC0_1 := am hc0_1
  clear hr0_1 hc0_1
  have HB := am (Below.refl w.heap.size w)
  have H : ((impl_texts.f k a0_0 l0_1 a0_2).bind fun t370 => (if (t370.length : Int) = 0 then (some (1, (⟨#[]⟩ : ByteArray), ([] : List (S68)), 0, (⟨#[]⟩ : ByteArray))) else (if a0_2 = (l0_1.length : Int) then (some (5, (⟨#[]⟩ : ByteArray), ([] : List (S68)), 0, (⟨#[]⟩ : ByteArray))) else (if 0 ≤ a0_2 then (if a0_2 < (l0_1.length : Int) then (impl_Redo.l0 k t370 (wrap64 (a0_2 + 1)) ((rd_T68 l0_1 a0_2).f3) a0_0 l0_1 a0_2) else (none)) else (none))))) = some (r1, r2, r3, r4, r5) := h
  clear h
  replace H := Option.bind_eq_some_iff.mp H
  obtain ⟨t370, A20, H⟩ := H
  replace H : (if (t370.length : Int) = 0 then (some (1, (⟨#[]⟩ : ByteArray), ([] : List (S68)), 0, (⟨#[]⟩ : ByteArray))) else (if a0_2 = (l0_1.length : Int) then (some (5, (⟨#[]⟩ : ByteArray), ([] : List (S68)), 0, (⟨#[]⟩ : ByteArray))) else (if 0 ≤ a0_2 then (if a0_2 < (l0_1.length : Int) then (impl_Redo.l0 k t370 (wrap64 (a0_2 + 1)) ((rd_T68 l0_1 a0_2).f3) a0_0 l0_1 a0_2) else (none)) else (none)))) = some (r1, r2, r3, r4, r5) := H
  have A2 := am A20
  clear A20
  by_cases c3 : (t370.length : Int) = 0
  · rw [if_pos c3] at H
    have NLc3 := am c3
    clear c3
    simp only [Option.some.injEq, Prod.mk.injEq] at H
    obtain ⟨rfl, rfl, rfl, rfl, rfl⟩ := H
    go_enter Try.func36, Try.ntmps36
    go_wp2_with (first | ((with_reducible refine gate_dst (N := 1) rfl ?_); (try (refine gate_guard (by rfl) ?_; dsimp only)); refine bX (N := 1) (cs := #[.string a0_0, .slice A0_1 l0_1.length c0_1, .int .i64 a0_2]) (t := 29) ?_; intro gb368 hg w4 hbox hb; have BK368 := am (hbox); have GW368 := am ((by rw [hg]; exact (below_size (w := w) i_) : w.heap.size ≤ gb368)); have GE368 := am ((by rw [hg]; exact (below_size (w := w) i_) : w.heap.size ≤ gb368)); replace HB := am (below_step (w := w) i_ hb); clear hb hbox hg) | ((with_reducible refine gate_dst (N := 2) rfl ?_); (try (refine gate_guard (by rfl) ?_; dsimp only)); refine bX (N := 2) (cs := #[.int .i64 0, .string (⟨#[]⟩ : ByteArray), .slice none 0 0, .int .i64 0, .string (⟨#[]⟩ : ByteArray)]) (t := 50) ?_; intro gb369 hg w5 hbox hb; have BK369 := am (hbox); have GW369 := am ((by rw [hg]; exact (below_size (w := w) i_) : w.heap.size ≤ gb369)); have GE369 := am ((by rw [hg]; exact (below_size (w := w) i_) : w.heap.size ≤ gb369)); have NB368_369 := am ((by rw [hg]; exact Nat.ne_of_lt (blk_lt (g := gb368) (o := .cells #[.string a0_0, .slice A0_1 l0_1.length c0_1, .int .i64 a0_2] 29 (0, 0)) i_) : gb368 ≠ gb369)); have NB369_368 := am ((by rw [hg]; exact Nat.ne_of_gt (blk_lt (g := gb368) (o := .cells #[.string a0_0, .slice A0_1 l0_1.length c0_1, .int .i64 a0_2] 29 (0, 0)) i_) : gb369 ≠ gb368)); replace BK368 := am (blk_below (g := gb368) (o := .cells #[.string a0_0, .slice A0_1 l0_1.length c0_1, .int .i64 a0_2] 29 (0, 0)) i_ hb); replace HB := am (below_step (w := w) i_ hb); clear hb hbox hg; have hnb6 := NB368_369.out; have hnc6 := NB369_368.out; have hcz7 := bc3 BK368.out) | ((with_reducible refine gate_callee (f := 49) rfl ?_); refine gL (some 7) Try.func49 #[.agg #[.string a0_0, .slice A0_1 l0_1.length c0_1, .int .i64 a0_2]] rfl ?_; (with_reducible refine (impl_texts.calls k a0_0 _ _ l0_1 a0_2 t370 _ ?side1 ?side2 A2.out).mono ?_); (case side1 => exact Kd.C_below HR0_1.out i_); (case side2 => exact HC0_1.out); rintro e w8 ⟨v371, rfl, ⟨ho0, hnq0⟩, hb⟩; refine ⟨_, rfl, ?_⟩; have NQv371 := am hnq0; clear hnq0; have HO372 := am (Kd.R_lower ho0 (below_size (w := w) i_)); replace BK368 := am (blk_below (g := gb368) (o := .cells #[.string a0_0, .slice A0_1 l0_1.length c0_1, .int .i64 a0_2] 29 (0, 0)) i_ hb); replace BK369 := am (blk_below (g := gb369) (o := .cells #[.int .i64 0, .string (⟨#[]⟩ : ByteArray), .slice none 0 0, .int .i64 0, .string (⟨#[]⟩ : ByteArray)] 50 (0, 0)) i_ hb); replace HB := am (below_step (w := w) i_ hb); (try clear hb); (try clear hb2); (try clear hk); (try clear hi); (try clear ho0); obtain ⟨Ao9, co9, eo9⟩ := Kd.R_slice HO372.out; subst eo9; have nq10 : (Ao9 : Option Addr).isNone = true := (by have h_ := NilIf.out NQv371.out (List.eq_nil_of_length_eq_zero (by have := NLc3.out; omega)); injection h_ with h1_ h2_ h3_; first | (rw [h1_]; done) | (rw [h1_]; rfl) | (subst h1_; rfl)); have hcz11 := bc5 BK369.out))
    refine bodyPost_ret (results_cell_row rfl _ _ gb369 50 #[.int .i64 1, .string (⟨#[]⟩ : ByteArray), .slice none 0 0, .int .i64 0, .string (⟨#[]⟩ : ByteArray)] (0, 0) _ rfl (by (with_reducible repeat (first | refine blk_drewN ?_ _ | refine blk_drew ?_ | refine blk_alloc ?_ _)); refine blk_put (cs := #[.int .i64 1, .string (⟨#[]⟩ : ByteArray), .slice none 0 0, .int .i64 0, .string (⟨#[]⟩ : ByteArray)]) ?_ 4 _ rfl; (with_reducible repeat (first | refine blk_drewN ?_ _ | refine blk_drew ?_ | refine blk_alloc ?_ _)); refine blk_put (cs := #[.int .i64 1, .string (⟨#[]⟩ : ByteArray), .slice none 0 0, .int .i64 0, .string (⟨#[]⟩ : ByteArray)]) ?_ 3 _ rfl; (with_reducible repeat (first | refine blk_drewN ?_ _ | refine blk_drew ?_ | refine blk_alloc ?_ _)); refine blk_put (cs := #[.int .i64 1, .string (⟨#[]⟩ : ByteArray), .slice none 0 0, .int .i64 0, .string (⟨#[]⟩ : ByteArray)]) ?_ 2 _ rfl; (with_reducible repeat (first | refine blk_drewN ?_ _ | refine blk_drew ?_ | refine blk_alloc ?_ _)); refine blk_put (cs := #[.int .i64 1, .string (⟨#[]⟩ : ByteArray), .slice none 0 0, .int .i64 0, .string (⟨#[]⟩ : ByteArray)]) ?_ 1 _ rfl; (with_reducible repeat (first | refine blk_drewN ?_ _ | refine blk_drew ?_ | refine blk_alloc ?_ _)); refine blk_put (cs := #[.int .i64 0, .string (⟨#[]⟩ : ByteArray), .slice none 0 0, .int .i64 0, .string (⟨#[]⟩ : ByteArray)]) ?_ 0 _ rfl; (with_reducible repeat (first | refine blk_drewN ?_ _ | refine blk_drew ?_ | refine blk_alloc ?_ _)); exact BK369.out) Try.underlying50 rfl (by kernel_rfl)) rfl ?_
    exact ⟨_, by first | rfl | (simp [errW_none, errW_some] <;> rfl) | (simp [*, errW_none, errW_some] <;> rfl), by first | exact Kd.R_nil _ _ _ _ _ | exact Kd.N_nil _ _ _ _ _ | exact Kd.V_nil _ _ _ _ _ | exact Kd.Q_nil _ _ _ _ _ | exact Kd.S_nil _ _ _ _ _, i_⟩
  · rw [if_neg c3] at H
    have NLc3 := am c3
    clear c3
    by_cases c12 : a0_2 = (l0_1.length : Int)
    · rw [if_pos c12] at H
      have c12b0 : (a0_2 == (l0_1.length : Int)) = true := beq_iff_eq.mpr c12
      have c12b1 : (a0_2 != (l0_1.length : Int)) = false := bne_eq_false_iff_eq.mpr c12
      clear c12
      simp only [Option.some.injEq, Prod.mk.injEq] at H
      obtain ⟨rfl, rfl, rfl, rfl, rfl⟩ := H
      go_enter Try.func36, Try.ntmps36
      go_wp2_with (first | ((with_reducible refine gate_dst (N := 1) rfl ?_); (try (refine gate_guard (by rfl) ?_; dsimp only)); refine bX (N := 1) (cs := #[.string a0_0, .slice A0_1 l0_1.length c0_1, .int .i64 a0_2]) (t := 29) ?_; intro gb368 hg w13 hbox hb; have BK368 := am (hbox); have GW368 := am ((by rw [hg]; exact (below_size (w := w) i_) : w.heap.size ≤ gb368)); have GE368 := am ((by rw [hg]; exact (below_size (w := w) i_) : w.heap.size ≤ gb368)); replace HB := am (below_step (w := w) i_ hb); clear hb hbox hg) | ((with_reducible refine gate_dst (N := 2) rfl ?_); (try (refine gate_guard (by rfl) ?_; dsimp only)); refine bX (N := 2) (cs := #[.int .i64 0, .string (⟨#[]⟩ : ByteArray), .slice none 0 0, .int .i64 0, .string (⟨#[]⟩ : ByteArray)]) (t := 50) ?_; intro gb369 hg w14 hbox hb; have BK369 := am (hbox); have GW369 := am ((by rw [hg]; exact (below_size (w := w) i_) : w.heap.size ≤ gb369)); have GE369 := am ((by rw [hg]; exact (below_size (w := w) i_) : w.heap.size ≤ gb369)); have NB368_369 := am ((by rw [hg]; exact Nat.ne_of_lt (blk_lt (g := gb368) (o := .cells #[.string a0_0, .slice A0_1 l0_1.length c0_1, .int .i64 a0_2] 29 (0, 0)) i_) : gb368 ≠ gb369)); have NB369_368 := am ((by rw [hg]; exact Nat.ne_of_gt (blk_lt (g := gb368) (o := .cells #[.string a0_0, .slice A0_1 l0_1.length c0_1, .int .i64 a0_2] 29 (0, 0)) i_) : gb369 ≠ gb368)); replace BK368 := am (blk_below (g := gb368) (o := .cells #[.string a0_0, .slice A0_1 l0_1.length c0_1, .int .i64 a0_2] 29 (0, 0)) i_ hb); replace HB := am (below_step (w := w) i_ hb); clear hb hbox hg; have hnb15 := NB368_369.out; have hnc15 := NB369_368.out; have hcz16 := bc3 BK368.out) | ((with_reducible refine gate_callee (f := 49) rfl ?_); refine gL (some 7) Try.func49 #[.agg #[.string a0_0, .slice A0_1 l0_1.length c0_1, .int .i64 a0_2]] rfl ?_; (with_reducible refine (impl_texts.calls k a0_0 _ _ l0_1 a0_2 t370 _ ?side1 ?side2 A2.out).mono ?_); (case side1 => exact Kd.C_below HR0_1.out i_); (case side2 => exact HC0_1.out); rintro e w17 ⟨v371, rfl, ⟨ho0, hnq0⟩, hb⟩; refine ⟨_, rfl, ?_⟩; have NQv371 := am hnq0; clear hnq0; have HO372 := am (Kd.R_lower ho0 (below_size (w := w) i_)); replace BK368 := am (blk_below (g := gb368) (o := .cells #[.string a0_0, .slice A0_1 l0_1.length c0_1, .int .i64 a0_2] 29 (0, 0)) i_ hb); replace BK369 := am (blk_below (g := gb369) (o := .cells #[.int .i64 0, .string (⟨#[]⟩ : ByteArray), .slice none 0 0, .int .i64 0, .string (⟨#[]⟩ : ByteArray)] 50 (0, 0)) i_ hb); replace HB := am (below_step (w := w) i_ hb); (try clear hb); (try clear hb2); (try clear hk); (try clear hi); (try clear ho0); obtain ⟨Ao18, co18, eo18⟩ := Kd.R_slice HO372.out; subst eo18; have nq19 : (Ao18 : Option Addr).isNone = false := (by obtain ⟨A_, c_, e_, _, hc_⟩ := Kd.R_reads HO372.out; injection e_ with e1_ e2_ e3_; obtain ⟨ad_, e4_, _⟩ := hc_.2.2 (by have := NLc3.out; omega); first | (rw [e1_, e4_]; done) | (rw [e1_, e4_]; rfl) | (subst e1_; subst e4_; rfl)); have hcz20 := bc3 BK368.out; have hcz21 := bc5 BK369.out))
      refine bodyPost_ret (results_cell_row rfl _ _ gb369 50 #[.int .i64 5, .string (⟨#[]⟩ : ByteArray), .slice none 0 0, .int .i64 0, .string (⟨#[]⟩ : ByteArray)] (0, 0) _ rfl (by (with_reducible repeat (first | refine blk_drewN ?_ _ | refine blk_drew ?_ | refine blk_alloc ?_ _)); refine blk_put (cs := #[.int .i64 5, .string (⟨#[]⟩ : ByteArray), .slice none 0 0, .int .i64 0, .string (⟨#[]⟩ : ByteArray)]) ?_ 4 _ rfl; (with_reducible repeat (first | refine blk_drewN ?_ _ | refine blk_drew ?_ | refine blk_alloc ?_ _)); refine blk_put (cs := #[.int .i64 5, .string (⟨#[]⟩ : ByteArray), .slice none 0 0, .int .i64 0, .string (⟨#[]⟩ : ByteArray)]) ?_ 3 _ rfl; (with_reducible repeat (first | refine blk_drewN ?_ _ | refine blk_drew ?_ | refine blk_alloc ?_ _)); refine blk_put (cs := #[.int .i64 5, .string (⟨#[]⟩ : ByteArray), .slice none 0 0, .int .i64 0, .string (⟨#[]⟩ : ByteArray)]) ?_ 2 _ rfl; (with_reducible repeat (first | refine blk_drewN ?_ _ | refine blk_drew ?_ | refine blk_alloc ?_ _)); refine blk_put (cs := #[.int .i64 5, .string (⟨#[]⟩ : ByteArray), .slice none 0 0, .int .i64 0, .string (⟨#[]⟩ : ByteArray)]) ?_ 1 _ rfl; (with_reducible repeat (first | refine blk_drewN ?_ _ | refine blk_drew ?_ | refine blk_alloc ?_ _)); refine blk_put (cs := #[.int .i64 0, .string (⟨#[]⟩ : ByteArray), .slice none 0 0, .int .i64 0, .string (⟨#[]⟩ : ByteArray)]) ?_ 0 _ rfl; (with_reducible repeat (first | refine blk_drewN ?_ _ | refine blk_drew ?_ | refine blk_alloc ?_ _)); exact BK369.out) Try.underlying50 rfl (by kernel_rfl)) rfl ?_
      exact ⟨_, by first | rfl | (simp [errW_none, errW_some] <;> rfl) | (simp [*, errW_none, errW_some] <;> rfl), by first | exact Kd.R_nil _ _ _ _ _ | exact Kd.N_nil _ _ _ _ _ | exact Kd.V_nil _ _ _ _ _ | exact Kd.Q_nil _ _ _ _ _ | exact Kd.S_nil _ _ _ _ _, i_⟩
    · rw [if_neg c12] at H
      have c12b0 : (a0_2 == (l0_1.length : Int)) = false := beq_eq_false_iff_ne.mpr c12
      have c12b1 : (a0_2 != (l0_1.length : Int)) = true := bne_iff_ne.mpr c12
      by_cases c22 : 0 ≤ a0_2
      · rw [if_pos c22] at H
        have c22b0 : decide (0 ≤ a0_2) = true := decide_eq_true c22
        clear c22
        by_cases c23 : a0_2 < (l0_1.length : Int)
        · rw [if_pos c23] at H
          have c23b0 : decide (a0_2 < (l0_1.length : Int)) = true := decide_eq_true c23
          clear c23
          have H' := am H
          clear H
          go_enter Try.func36, Try.ntmps36
          go_wp2_with (first | ((with_reducible refine gate_dst (N := 1) rfl ?_); (try (refine gate_guard (by rfl) ?_; dsimp only)); refine bX (N := 1) (cs := #[.string a0_0, .slice A0_1 l0_1.length c0_1, .int .i64 a0_2]) (t := 29) ?_; intro gb368 hg w24 hbox hb; have BK368 := am (hbox); have GW368 := am ((by rw [hg]; exact (below_size (w := w) i_) : w.heap.size ≤ gb368)); have GE368 := am ((by rw [hg]; exact (below_size (w := w) i_) : w.heap.size ≤ gb368)); replace HB := am (below_step (w := w) i_ hb); clear hb hbox hg) | ((with_reducible refine gate_dst (N := 2) rfl ?_); (try (refine gate_guard (by rfl) ?_; dsimp only)); refine bX (N := 2) (cs := #[.int .i64 0, .string (⟨#[]⟩ : ByteArray), .slice none 0 0, .int .i64 0, .string (⟨#[]⟩ : ByteArray)]) (t := 50) ?_; intro gb369 hg w25 hbox hb; have BK369 := am (hbox); have GW369 := am ((by rw [hg]; exact (below_size (w := w) i_) : w.heap.size ≤ gb369)); have GE369 := am ((by rw [hg]; exact (below_size (w := w) i_) : w.heap.size ≤ gb369)); have NB368_369 := am ((by rw [hg]; exact Nat.ne_of_lt (blk_lt (g := gb368) (o := .cells #[.string a0_0, .slice A0_1 l0_1.length c0_1, .int .i64 a0_2] 29 (0, 0)) i_) : gb368 ≠ gb369)); have NB369_368 := am ((by rw [hg]; exact Nat.ne_of_gt (blk_lt (g := gb368) (o := .cells #[.string a0_0, .slice A0_1 l0_1.length c0_1, .int .i64 a0_2] 29 (0, 0)) i_) : gb369 ≠ gb368)); replace BK368 := am (blk_below (g := gb368) (o := .cells #[.string a0_0, .slice A0_1 l0_1.length c0_1, .int .i64 a0_2] 29 (0, 0)) i_ hb); replace HB := am (below_step (w := w) i_ hb); clear hb hbox hg; have hnb26 := NB368_369.out; have hnc26 := NB369_368.out; have hcz27 := bc3 BK368.out) | ((with_reducible refine gate_callee (f := 49) rfl ?_); refine gL (some 7) Try.func49 #[.agg #[.string a0_0, .slice A0_1 l0_1.length c0_1, .int .i64 a0_2]] rfl ?_; (with_reducible refine (impl_texts.calls k a0_0 _ _ l0_1 a0_2 t370 _ ?side1 ?side2 A2.out).mono ?_); (case side1 => exact Kd.C_below HR0_1.out i_); (case side2 => exact HC0_1.out); rintro e w28 ⟨v371, rfl, ⟨ho0, hnq0⟩, hb⟩; refine ⟨_, rfl, ?_⟩; have NQv371 := am hnq0; clear hnq0; have HO372 := am (Kd.R_lower ho0 (below_size (w := w) i_)); replace BK368 := am (blk_below (g := gb368) (o := .cells #[.string a0_0, .slice A0_1 l0_1.length c0_1, .int .i64 a0_2] 29 (0, 0)) i_ hb); replace BK369 := am (blk_below (g := gb369) (o := .cells #[.int .i64 0, .string (⟨#[]⟩ : ByteArray), .slice none 0 0, .int .i64 0, .string (⟨#[]⟩ : ByteArray)] 50 (0, 0)) i_ hb); replace HB := am (below_step (w := w) i_ hb); (try clear hb); (try clear hb2); (try clear hk); (try clear hi); (try clear ho0); obtain ⟨Ao29, co29, eo29⟩ := Kd.R_slice HO372.out; subst eo29; have nq30 : (Ao29 : Option Addr).isNone = false := (by obtain ⟨A_, c_, e_, _, hc_⟩ := Kd.R_reads HO372.out; injection e_ with e1_ e2_ e3_; obtain ⟨ad_, e4_, _⟩ := hc_.2.2 (by have := NLc3.out; omega); first | (rw [e1_, e4_]; done) | (rw [e1_, e4_]; rfl) | (subst e1_; subst e4_; rfl)); have hcz31 := bc3 BK368.out; have p373 : 0 ≤ (a0_2 : Int) := of_decide_eq_true (by first | (with_reducible assumption) | assumption); have q373 : a0_2 < (l0_1.length : Int) := of_decide_eq_true (by first | (with_reducible assumption) | assumption); obtain ⟨ad373, e373, hx373_0, hx373_1, hx373_2, hx373_3⟩ := at_T68 HR0_1.out a0_2 p373 q373; cases e373; replace hx373_0 := (HB.out.cell (World.block_lt_of_cell? w _ hx373_0)).trans hx373_0; replace hx373_1 := (HB.out.cell (World.block_lt_of_cell? w _ hx373_1)).trans hx373_1; replace hx373_2 := (HB.out.cell (World.block_lt_of_cell? w _ hx373_2)).trans hx373_2; replace hx373_3 := (HB.out.cell (World.block_lt_of_cell? w _ hx373_3)).trans hx373_3; replace p373 := eq_true p373; replace q373 := eq_true q373))
          go_loopg [4] k (fun kq v4 w' => ∃ (x4_1 : Int), v4 = .int .i64 x4_1 ∧ Fc (impl_Redo.l0 kq t370 x4_1 ((rd_T68 l0_1 a0_2).f3) a0_0 l0_1 a0_2 = some (r1, r2, r3, r4, r5)) ∧ Fc (kq ≤ k) ∧ Fc (Kd.R Kd.string 9 w' w.heap.size (fun _ => True) (.slice Ao29 t370.length co29) t370) ∧ Fc (w'.heap[gb368]? = some (.cells #[.string a0_0, (.slice (some ad373) l0_1.length c0_1), .int .i64 a0_2] 29 (0, 0))) ∧ Fc (w'.heap[gb369]? = some (.cells #[.int .i64 0, .string (⟨#[]⟩ : ByteArray), (.slice none 0 0), .int .i64 0, .string (⟨#[]⟩ : ByteArray)] 50 (0, 0))) ∧ Fc (Below w.heap.size w w'))
          case atStart => exact ⟨(wrap64 (a0_2 + 1)), (by first | rfl | (simp; done) | (simp [*]; done)), H', ⟨Nat.le_refl _⟩, ⟨i_⟩, ⟨i_⟩, ⟨i_⟩, ⟨i_⟩⟩
          case round =>
            clear H'
            (try clear c1); (try clear q1); (try clear c2); (try clear p2); (try clear c3); (try clear p3); (try clear q3); (try clear hx3); (try clear c4); (try clear c6); (try clear p6); (try clear q10); (try clear c12); (try clear c12b0); (try clear c12b1); (try clear c15); (try clear q19); (try clear c22); (try clear c22b0); (try clear c23); (try clear c23b0); (try clear c26); (try clear q30); (try clear hcz11); (try clear hcz16); (try clear hcz20); (try clear hcz21); (try clear hcz27); (try clear hcz31); (try clear hcz7); (try clear hx373_0); (try clear hx373_1); (try clear hx373_2); (try clear hx373_3); (try clear p373); (try clear q373)
            obtain ⟨x4_1, rfl, HA, HK1, HO_3, BK368, BK369, HB⟩ := hrel
            cases gk with
            | zero => exact absurd HA.out (by simp [impl_Redo.l0])
            | succ k1 =>
              have H := HA.out
              clear HA
              simp only [impl_Redo.l0] at H
              by_cases c32 : ((rd_T68 l0_1 a0_2).f3) > 0
              · rw [if_pos c32] at H
                have c32b0 : decide (0 < ((rd_T68 l0_1 a0_2).f3)) = true := decide_eq_true c32
                clear c32
                by_cases c33 : x4_1 < (l0_1.length : Int)
                · rw [if_pos c33] at H
                  have c33b0 : decide (x4_1 < (l0_1.length : Int)) = true := decide_eq_true c33
                  clear c33
                  by_cases c34 : 0 ≤ x4_1
                  · rw [if_pos c34] at H
                    have c34b0 : decide (0 ≤ x4_1) = true := decide_eq_true c34
                    clear c34
                    by_cases c35 : ((rd_T68 l0_1 x4_1).f3) = ((rd_T68 l0_1 a0_2).f3)
                    · rw [if_pos c35] at H
                      have c35b0 : (((rd_T68 l0_1 x4_1).f3) == ((rd_T68 l0_1 a0_2).f3)) = true := beq_iff_eq.mpr c35
                      have c35b1 : (((rd_T68 l0_1 x4_1).f3) != ((rd_T68 l0_1 a0_2).f3)) = false := bne_eq_false_iff_eq.mpr c35
                      clear c35
                      have H' := am H
                      clear H
                      have hnb36 := NB368_369.out
                      have hnc36 := NB369_368.out
                      have hcz37 := bc3 BK368.out
                      have p374 : 0 ≤ (x4_1 : Int) := of_decide_eq_true (by first | (with_reducible assumption) | assumption)
                      have q374 : x4_1 < (l0_1.length : Int) := of_decide_eq_true (by first | (with_reducible assumption) | assumption)
                      obtain ⟨ad374, e374, hx374_0, hx374_1, hx374_2, hx374_3⟩ := at_T68 HR0_1.out x4_1 p374 q374
                      obtain rfl : ad373 = ad374 := (by injection e374)
                      replace hx374_0 := (HB.out.cell (World.block_lt_of_cell? w _ hx374_0)).trans hx374_0
                      replace hx374_1 := (HB.out.cell (World.block_lt_of_cell? w _ hx374_1)).trans hx374_1
                      replace hx374_2 := (HB.out.cell (World.block_lt_of_cell? w _ hx374_2)).trans hx374_2
                      replace hx374_3 := (HB.out.cell (World.block_lt_of_cell? w _ hx374_3)).trans hx374_3
                      replace p374 := eq_true p374
                      replace q374 := eq_true q374
                      go_wp2
                      go_roundg k1
                      case measure => have := HK1.out; omega
                      case rel => exact ⟨(wrap64 (x4_1 + 1)), (by first | rfl | (simp; done) | (simp [*]; done)), H', ⟨by have := HK1.out; omega⟩, ⟨i_⟩, ⟨i_⟩, ⟨i_⟩, ⟨i_⟩⟩
                    · rw [if_neg c35] at H
                      have c35b0 : (((rd_T68 l0_1 x4_1).f3) == ((rd_T68 l0_1 a0_2).f3)) = false := beq_eq_false_iff_ne.mpr c35
                      have c35b1 : (((rd_T68 l0_1 x4_1).f3) != ((rd_T68 l0_1 a0_2).f3)) = true := bne_iff_ne.mpr c35
                      replace H := Option.bind_eq_some_iff.mp H
                      obtain ⟨t375, A380, H⟩ := H
                      replace H : (if x4_1 < (t370.length : Int) then (some (0, a0_0, t375, x4_1, rdOf ByteArray.empty t370 x4_1)) else (none)) = some (r1, r2, r3, r4, r5) := H
                      have A38 := am A380
                      clear A380
                      by_cases c39 : x4_1 < (t370.length : Int)
                      · rw [if_pos c39] at H
                        have c39b0 : decide (x4_1 < (t370.length : Int)) = true := decide_eq_true c39
                        clear c39
                        simp only [Option.some.injEq, Prod.mk.injEq] at H
                        obtain ⟨rfl, rfl, rfl, rfl, rfl⟩ := H
                        have hnb40 := NB368_369.out
                        have hnc40 := NB369_368.out
                        have hcz41 := bc3 BK368.out
                        have p374 : 0 ≤ (x4_1 : Int) := of_decide_eq_true (by first | (with_reducible assumption) | assumption)
                        have q374 : x4_1 < (l0_1.length : Int) := of_decide_eq_true (by first | (with_reducible assumption) | assumption)
                        obtain ⟨ad374, e374, hx374_0, hx374_1, hx374_2, hx374_3⟩ := at_T68 HR0_1.out x4_1 p374 q374
                        obtain rfl : ad373 = ad374 := (by injection e374)
                        replace hx374_0 := (HB.out.cell (World.block_lt_of_cell? w _ hx374_0)).trans hx374_0
                        replace hx374_1 := (HB.out.cell (World.block_lt_of_cell? w _ hx374_1)).trans hx374_1
                        replace hx374_2 := (HB.out.cell (World.block_lt_of_cell? w _ hx374_2)).trans hx374_2
                        replace hx374_3 := (HB.out.cell (World.block_lt_of_cell? w _ hx374_3)).trans hx374_3
                        replace p374 := eq_true p374
                        replace q374 := eq_true q374
                        try go_wp2
                        have n0_ := am (Kd.R_drew HO_3.out)
                        have n1_ := am (blk_drew BK368.out)
                        have n2_ := am (blk_drew BK369.out)
                        have n3_ := am (below_drew1 HB.out)
                        clear HO_3
                        clear BK368
                        clear BK369
                        clear HB
                        have HO_3 := n0_
                        have BK368 := n1_
                        have BK369 := n2_
                        have HB := n3_
                        clear n0_ n1_ n2_ n3_
                        have p378 : 0 ≤ (x4_1 : Int) := of_decide_eq_true (by first | (with_reducible assumption) | assumption)
                        have q378 : x4_1 < (t370.length : Int) := of_decide_eq_true (by first | (with_reducible assumption) | assumption)
                        obtain ⟨ad378, e378, hx378_0⟩ := Kd.at_string (Kd.R_reads' HO_3.out).2.2 x4_1 p378 q378
                        cases e378
                        replace p378 := eq_true p378
                        replace q378 := eq_true q378
                        refine start_ (n := 13) (S := fun w' => w'.cell? ⟨gb368, 0, none⟩ = some (.string a0_0) ∧ w'.cell? ⟨gb368, 1, none⟩ = some (.slice (some ad373) l0_1.length c0_1) ∧ w'.cell? ⟨gb368, 2, none⟩ = some (.int .i64 a0_2) ∧ w'.cell? (ad378.add (x4_1).toNat) = some (.string (rdOf ByteArray.empty t370 x4_1))) (ds := []) #[false, false, false, false, false, false, false, false, false, false, false, false, false] (by kernel_rfl) rfl rfl ⟨(blk_cell BK368.out 0).trans rfl, (blk_cell BK368.out 1).trans rfl, (blk_cell BK368.out 2).trans rfl, hx378_0⟩ (fun hHeld => ?_); refine with_tabW impl_Redo.tab11 impl_Redo.bits11 (fun HT_ HW_ => ?_)
                        generalize wr.drew = w42 at HO_3 BK368 BK369 HB hx378_0 hHeld ⊢
                        refine pure_ (i := 0) (N := some 48) (v := ?_) (a' := ?_) #[true, false, false, false, false, false, false, false, false, false, false, false, false] rfl rfl (any_of HT_.out (by kernel_rfl)) (fun _ _ _ h => h) (Or.inl ⟨by rfl, ?_⟩) ?_ ?_
                        rotate_left
                        · intro w'
                          go_simp
                          with_reducible rfl
                        rotate_left
                        · simp only [Act.put, List.setIfInBounds_toArray, List.set_cons_zero, List.set_cons_succ, i64_w, i32_w]
                          rfl
                        refine pure_ (i := 2) (N := some 50) (v := ?_) (a' := ?_) #[true, false, true, false, false, false, false, false, false, false, false, false, false] rfl rfl (any_of HT_.out (by kernel_rfl)) (fun _ _ _ h => h) (Or.inl ⟨by rfl, ?_⟩) ?_ ?_
                        rotate_left
                        · intro w'
                          go_simp
                          with_reducible rfl
                        rotate_left
                        · simp only [Act.put, List.setIfInBounds_toArray, List.set_cons_zero, List.set_cons_succ, i64_w, i32_w]
                          rfl
                        refine pure_ (i := 5) (N := some 53) (v := ?_) (a' := ?_) #[true, false, true, false, false, true, false, false, false, false, false, false, false] rfl rfl (any_of HT_.out (by kernel_rfl)) (fun _ _ _ h => h) (Or.inl ⟨by rfl, ?_⟩) ?_ ?_
                        rotate_left
                        · intro w'
                          go_simp
                          with_reducible rfl
                        rotate_left
                        · simp only [Act.put, List.setIfInBounds_toArray, List.set_cons_zero, List.set_cons_succ, i64_w, i32_w]
                          rfl
                        refine pure_ (i := 7) (N := some 55) (v := ?_) (a' := ?_) #[true, false, true, false, false, true, false, true, false, false, false, false, false] rfl rfl (any_of HT_.out (by kernel_rfl)) (fun _ _ _ h => h) (Or.inl ⟨by rfl, ?_⟩) ?_ ?_
                        rotate_left
                        · intro w'
                          go_simp
                          with_reducible rfl
                        rotate_left
                        · simp only [Act.put, List.setIfInBounds_toArray, List.set_cons_zero, List.set_cons_succ, i64_w, i32_w]
                          rfl
                        refine pure_ (i := 8) (N := some 56) (v := ?_) (a' := ?_) #[true, false, true, false, false, true, false, true, true, false, false, false, false] rfl rfl (any_of HT_.out (by kernel_rfl)) (fun _ _ _ h => h) (Or.inl ⟨by rfl, ?_⟩) ?_ ?_
                        rotate_left
                        · intro w'
                          go_simp
                          with_reducible rfl
                        rotate_left
                        · simp only [Act.put, List.setIfInBounds_toArray, List.set_cons_zero, List.set_cons_succ, i64_w, i32_w]
                          rfl
                        refine pure_ (i := 9) (N := some 57) (v := ?_) (a' := ?_) #[true, false, true, false, false, true, false, true, true, true, false, false, false] rfl rfl (any_of HT_.out (by kernel_rfl)) (fun _ _ _ h => h) (Or.inl ⟨by rfl, ?_⟩) ?_ ?_
                        rotate_left
                        · intro w'
                          go_simp
                          with_reducible rfl
                        rotate_left
                        · simp only [Act.put, List.setIfInBounds_toArray, List.set_cons_zero, List.set_cons_succ, i64_w, i32_w]
                          rfl
                        refine take_ (i := 1) (N := some 49) (v := ?_) (a' := ?_) #[true, true, true, false, false, true, false, true, true, true, false, false, false] rfl rfl (take_ofW HT_.out HW_.out (by kernel_rfl)) (fun _ _ _ h => h) (Or.inl ⟨by rfl, ?_⟩) hHeld ?_ ?_
                        rotate_left
                        · rintro w' ⟨s0, s1, s2, s3⟩
                          go_simp
                          with_reducible rfl
                        rotate_left
                        · simp only [Act.put, List.setIfInBounds_toArray, List.set_cons_zero, List.set_cons_succ, i64_w, i32_w]
                          rfl
                        refine take_ (i := 3) (N := some 51) (v := ?_) (a' := ?_) #[true, true, true, true, false, true, false, true, true, true, false, false, false] rfl rfl (take_ofW HT_.out HW_.out (by kernel_rfl)) (fun _ _ _ h => h) (Or.inl ⟨by rfl, ?_⟩) hHeld ?_ ?_
                        rotate_left
                        · rintro w' ⟨s0, s1, s2, s3⟩
                          go_simp
                          with_reducible rfl
                        rotate_left
                        · simp only [Act.put, List.setIfInBounds_toArray, List.set_cons_zero, List.set_cons_succ, i64_w, i32_w]
                          rfl
                        refine take_ (i := 10) (N := some 58) (v := ?_) (a' := ?_) #[true, true, true, true, false, true, false, true, true, true, true, false, false] rfl rfl (take_ofW HT_.out HW_.out (by kernel_rfl)) (fun _ _ _ h => h) (Or.inl ⟨by rfl, ?_⟩) hHeld ?_ ?_
                        rotate_left
                        · rintro w' ⟨s0, s1, s2, s3⟩
                          go_simp
                          with_reducible rfl
                        rotate_left
                        · simp only [Act.put, List.setIfInBounds_toArray, List.set_cons_zero, List.set_cons_succ, i64_w, i32_w]
                          rfl
                        refine one_ (i := 4) (N := some 52) #[true, true, true, true, true, true, false, true, true, true, true, false, false] rfl rfl (one_of HT_.out (by kernel_rfl)) (by decide) (fun K hK => ?_)
                        refine goes_ Try.func54 (by kernel_rfl) rfl #[.slice (some ad373) l0_1.length c0_1] (by rfl) rfl rfl (by (try simp only [List.map_toArray, List.map_cons, List.map_nil]); first | done | rfl | (simp only [List.length_drop, List.length_take]; rfl)) ?_
                        with_reducible refine (impl_Step.calls _ _ l0_1 t375 _ ?side1 ?side2 A38.out).mono ?_
                        (case side1 => exact Kd.C_below HR0_1.out i_)
                        (case side2 => exact HC0_1.out)
                        rintro e w43 ⟨v376, rfl, ho0, hb⟩
                        have HS3_ := (hb.cell (World.block_lt_of_cell? _ _ (hHeld.2.2.2))).trans (hHeld.2.2.2)
                        refine ⟨_, rfl, ?_⟩
                        have n0_ := am (rB HO_3.out i_ hb)
                        have n1_ := am (Kd.R_lower ho0 (below_size (w := w) i_))
                        have n2_ := am (blk_below (g := gb368) (o := .cells #[.string a0_0, .slice (some ad373) l0_1.length c0_1, .int .i64 a0_2] 29 (0, 0)) i_ hb)
                        have n3_ := am (blk_below (g := gb369) (o := .cells #[.int .i64 0, .string (⟨#[]⟩ : ByteArray), .slice none 0 0, .int .i64 0, .string (⟨#[]⟩ : ByteArray)] 50 (0, 0)) i_ hb)
                        have n4_ := am (below_step (w := w) i_ hb)
                        clear HO_3
                        clear BK368
                        clear BK369
                        clear HB
                        have HO_3 := n0_
                        have HO377 := n1_
                        have BK368 := n2_
                        have BK369 := n3_
                        have HB := n4_
                        clear n0_ n1_ n2_ n3_ n4_
                        ((try clear hb))
                        ((try clear hb2))
                        ((try clear hk))
                        ((try clear hi))
                        ((try clear ho0))
                        obtain ⟨Ao44, co44, eo44⟩ := Kd.R_slice HO377.out
                        (first | subst eo44 | (injection eo44 with f1_ f2_ f3_; have f4_ := f1_.symm; have f5_ := f3_.symm; clear f1_ f2_ f3_; subst f4_; subst f5_))
                        refine hK.out _ _ ⟨(blk_cell BK368.out 0).trans rfl, (blk_cell BK368.out 1).trans rfl, (blk_cell BK368.out 2).trans rfl, HS3_⟩ (fun hHeld => ?_)
                        clear hK K
                        refine norm_ (a' := ?_) ?_ ?_
                        rotate_left
                        · show Act.put _ (some 52) _ = _
                          simp only [Act.put, List.setIfInBounds_toArray, List.set_cons_zero, List.set_cons_succ, i64_w, i32_w]
                          rfl
                        refine pure_ (i := 6) (N := some 54) (v := ?_) (a' := ?_) #[true, true, true, true, true, true, true, true, true, true, true, false, false] rfl rfl (any_of HT_.out (by kernel_rfl)) (fun _ _ _ h => h) (Or.inl ⟨by rfl, ?_⟩) ?_ ?_
                        rotate_left
                        · intro w'
                          go_simp
                          with_reducible rfl
                        rotate_left
                        · simp only [Act.put, List.setIfInBounds_toArray, List.set_cons_zero, List.set_cons_succ, i64_w, i32_w]
                          rfl
                        refine pure_ (i := 11) (N := some 59) (v := ?_) (a' := ?_) #[true, true, true, true, true, true, true, true, true, true, true, true, false] rfl rfl (any_of HT_.out (by kernel_rfl)) (fun _ _ _ h => h) (Or.inl ⟨by rfl, ?_⟩) ?_ ?_
                        rotate_left
                        · intro w'
                          go_simp
                          with_reducible rfl
                        rotate_left
                        · simp only [Act.put, List.setIfInBounds_toArray, List.set_cons_zero, List.set_cons_succ, i64_w, i32_w]
                          rfl
                        refine one_ (i := 12) (N := none) #[true, true, true, true, true, true, true, true, true, true, true, true, true] rfl rfl (one_of HT_.out (by kernel_rfl)) (by decide) (fun K hK => ?_)
                        have hs45 : w43.cell? ⟨gb369, 0, none⟩ = some (.int .i64 0) := (blk_cell BK369.out 0).trans rfl
                        have hfs45 := blk_frozen BK369.out 0
                        have hns45_0 := NB368_369.out
                        have hms45_0 := NB369_368.out
                        have hs46 : w43.cell? ⟨gb369, 1, none⟩ = some (.string (⟨#[]⟩ : ByteArray)) := (blk_cell BK369.out 1).trans rfl
                        have hfs46 := blk_frozen BK369.out 1
                        have hns46_0 := NB368_369.out
                        have hms46_0 := NB369_368.out
                        have hs47 : w43.cell? ⟨gb369, 2, none⟩ = some (.slice none 0 0) := (blk_cell BK369.out 2).trans rfl
                        have hfs47 := blk_frozen BK369.out 2
                        have hns47_0 := NB368_369.out
                        have hms47_0 := NB369_368.out
                        have hs48 : w43.cell? ⟨gb369, 3, none⟩ = some (.int .i64 0) := (blk_cell BK369.out 3).trans rfl
                        have hfs48 := blk_frozen BK369.out 3
                        have hns48_0 := NB368_369.out
                        have hms48_0 := NB369_368.out
                        have hs49 : w43.cell? ⟨gb369, 4, none⟩ = some (.string (⟨#[]⟩ : ByteArray)) := (blk_cell BK369.out 4).trans rfl
                        have hfs49 := blk_frozen BK369.out 4
                        have hns49_0 := NB368_369.out
                        have hms49_0 := NB369_368.out
                        refine skip_ (w1 := ?_) (by rfl) rfl ?_ ?_
                        rotate_left
                        · go_simp
                          rfl
                        refine hK.out _ _ ⟨((cell_far (p := ⟨gb369, _, none⟩) NB368_369.out _).trans (((cell_far (p := ⟨gb369, _, none⟩) NB368_369.out _).trans (((cell_far (p := ⟨gb369, _, none⟩) NB368_369.out _).trans (((cell_far (p := ⟨gb369, _, none⟩) NB368_369.out _).trans (((cell_far (p := ⟨gb369, _, none⟩) NB368_369.out _).trans (hHeld.1)))))))))), ((cell_far (p := ⟨gb369, _, none⟩) NB368_369.out _).trans (((cell_far (p := ⟨gb369, _, none⟩) NB368_369.out _).trans (((cell_far (p := ⟨gb369, _, none⟩) NB368_369.out _).trans (((cell_far (p := ⟨gb369, _, none⟩) NB368_369.out _).trans (((cell_far (p := ⟨gb369, _, none⟩) NB368_369.out _).trans (hHeld.2.1)))))))))), ((cell_far (p := ⟨gb369, _, none⟩) NB368_369.out _).trans (((cell_far (p := ⟨gb369, _, none⟩) NB368_369.out _).trans (((cell_far (p := ⟨gb369, _, none⟩) NB368_369.out _).trans (((cell_far (p := ⟨gb369, _, none⟩) NB368_369.out _).trans (((cell_far (p := ⟨gb369, _, none⟩) NB368_369.out _).trans (hHeld.2.2.1)))))))))), ((cell_far (p := ⟨gb369, _, none⟩) (by first | exact Kd.own_blk (Kd.R_ne HO_3.out BK369.out (by decide)) | (rw [add_block]; exact Kd.own_blk (Kd.R_ne HO_3.out BK369.out (by decide))) | (show (Addr.add _ _).block ≠ _; rw [add_block]; exact Kd.own_blk (Kd.R_ne HO_3.out BK369.out (by decide))) | (dsimp only; exact Kd.own_blk (Kd.R_ne HO_3.out BK369.out (by decide)))) _).trans (((cell_far (p := ⟨gb369, _, none⟩) (by first | exact Kd.own_blk (Kd.R_ne HO_3.out BK369.out (by decide)) | (rw [add_block]; exact Kd.own_blk (Kd.R_ne HO_3.out BK369.out (by decide))) | (show (Addr.add _ _).block ≠ _; rw [add_block]; exact Kd.own_blk (Kd.R_ne HO_3.out BK369.out (by decide))) | (dsimp only; exact Kd.own_blk (Kd.R_ne HO_3.out BK369.out (by decide)))) _).trans (((cell_far (p := ⟨gb369, _, none⟩) (by first | exact Kd.own_blk (Kd.R_ne HO_3.out BK369.out (by decide)) | (rw [add_block]; exact Kd.own_blk (Kd.R_ne HO_3.out BK369.out (by decide))) | (show (Addr.add _ _).block ≠ _; rw [add_block]; exact Kd.own_blk (Kd.R_ne HO_3.out BK369.out (by decide))) | (dsimp only; exact Kd.own_blk (Kd.R_ne HO_3.out BK369.out (by decide)))) _).trans (((cell_far (p := ⟨gb369, _, none⟩) (by first | exact Kd.own_blk (Kd.R_ne HO_3.out BK369.out (by decide)) | (rw [add_block]; exact Kd.own_blk (Kd.R_ne HO_3.out BK369.out (by decide))) | (show (Addr.add _ _).block ≠ _; rw [add_block]; exact Kd.own_blk (Kd.R_ne HO_3.out BK369.out (by decide))) | (dsimp only; exact Kd.own_blk (Kd.R_ne HO_3.out BK369.out (by decide)))) _).trans (((cell_far (p := ⟨gb369, _, none⟩) (by first | exact Kd.own_blk (Kd.R_ne HO_3.out BK369.out (by decide)) | (rw [add_block]; exact Kd.own_blk (Kd.R_ne HO_3.out BK369.out (by decide))) | (show (Addr.add _ _).block ≠ _; rw [add_block]; exact Kd.own_blk (Kd.R_ne HO_3.out BK369.out (by decide))) | (dsimp only; exact Kd.own_blk (Kd.R_ne HO_3.out BK369.out (by decide)))) _).trans (hHeld.2.2.2))))))))))⟩ (fun hHeld => ?_)
                        clear hK K
                        refine done_ (done_of HT_.out (by kernel_rfl)) ?_
                        try go_wp2
                        refine bodyPost_ret (results_cell_row rfl _ _ gb369 50 #[.int .i64 0, .string a0_0, .slice Ao44 t375.length co44, .int .i64 x4_1, .string (rdOf ByteArray.empty t370 x4_1)] (0, 0) _ rfl (by (with_reducible repeat (first | refine blk_drewN ?_ _ | refine blk_drew ?_ | refine blk_alloc ?_ _)); refine blk_put (cs := #[.int .i64 0, .string a0_0, .slice Ao44 t375.length co44, .int .i64 x4_1, .string (⟨#[]⟩ : ByteArray)]) ?_ 4 _ rfl; (with_reducible repeat (first | refine blk_drewN ?_ _ | refine blk_drew ?_ | refine blk_alloc ?_ _)); refine blk_put (cs := #[.int .i64 0, .string a0_0, .slice Ao44 t375.length co44, .int .i64 0, .string (⟨#[]⟩ : ByteArray)]) ?_ 3 _ rfl; (with_reducible repeat (first | refine blk_drewN ?_ _ | refine blk_drew ?_ | refine blk_alloc ?_ _)); refine blk_put (cs := #[.int .i64 0, .string a0_0, .slice none 0 0, .int .i64 0, .string (⟨#[]⟩ : ByteArray)]) ?_ 2 _ rfl; (with_reducible repeat (first | refine blk_drewN ?_ _ | refine blk_drew ?_ | refine blk_alloc ?_ _)); refine blk_put (cs := #[.int .i64 0, .string (⟨#[]⟩ : ByteArray), .slice none 0 0, .int .i64 0, .string (⟨#[]⟩ : ByteArray)]) ?_ 1 _ rfl; (with_reducible repeat (first | refine blk_drewN ?_ _ | refine blk_drew ?_ | refine blk_alloc ?_ _)); refine blk_put (cs := #[.int .i64 0, .string (⟨#[]⟩ : ByteArray), .slice none 0 0, .int .i64 0, .string (⟨#[]⟩ : ByteArray)]) ?_ 0 _ rfl; (with_reducible repeat (first | refine blk_drewN ?_ _ | refine blk_drew ?_ | refine blk_alloc ?_ _)); exact BK369.out) Try.underlying50 rfl (by kernel_rfl)) rfl ?_
                        exact ⟨_, by first | rfl | (simp [errW_none, errW_some] <;> rfl) | (simp [*, errW_none, errW_some] <;> rfl), by (with_reducible repeat (first | apply Kd.R_alloc | apply Kd.R_drewN | apply Kd.R_drew)); exact Kd.R_mono (Kd.R_far (p := ⟨gb369, 4, none⟩) (Kd.R_far (p := ⟨gb369, 3, none⟩) (Kd.R_far (p := ⟨gb369, 2, none⟩) (Kd.R_far (p := ⟨gb369, 1, none⟩) (Kd.R_far (p := ⟨gb369, 0, none⟩) (Kd.R_types HO377.out BK369.out (by decide)) (fun _ hk => hk.2) (.int .i64 0)) (fun _ hk => hk.2) (.string a0_0)) (fun _ hk => hk.2) (.slice Ao44 t375.length co44)) (fun _ hk => hk.2) (.int .i64 x4_1)) (fun _ hk => hk.2) (.string (rdOf ByteArray.empty t370 x4_1))) (fun _ hk => trivial), i_⟩
                      · rw [if_neg c39] at H
                        exact absurd H (by simp)
                  · rw [if_neg c34] at H
                    exact absurd H (by simp)
                · rw [if_neg c33] at H
                  have c33b0 : decide (x4_1 < (l0_1.length : Int)) = false := decide_eq_false c33
                  clear c33
                  replace H := Option.bind_eq_some_iff.mp H
                  obtain ⟨t379, A500, H⟩ := H
                  replace H : (if 0 ≤ x4_1 then (if x4_1 < (t370.length : Int) then (some (0, a0_0, t379, x4_1, rdOf ByteArray.empty t370 x4_1)) else (none)) else (none)) = some (r1, r2, r3, r4, r5) := H
                  have A50 := am A500
                  clear A500
                  by_cases c51 : 0 ≤ x4_1
                  · rw [if_pos c51] at H
                    have c51b0 : decide (0 ≤ x4_1) = true := decide_eq_true c51
                    clear c51
                    by_cases c52 : x4_1 < (t370.length : Int)
                    · rw [if_pos c52] at H
                      have c52b0 : decide (x4_1 < (t370.length : Int)) = true := decide_eq_true c52
                      clear c52
                      simp only [Option.some.injEq, Prod.mk.injEq] at H
                      obtain ⟨rfl, rfl, rfl, rfl, rfl⟩ := H
                      have hnb53 := NB368_369.out
                      have hnc53 := NB369_368.out
                      have hcz54 := bc3 BK368.out
                      try go_wp2
                      have n0_ := am (Kd.R_drew HO_3.out)
                      have n1_ := am (blk_drew BK368.out)
                      have n2_ := am (blk_drew BK369.out)
                      have n3_ := am (below_drew1 HB.out)
                      clear HO_3
                      clear BK368
                      clear BK369
                      clear HB
                      have HO_3 := n0_
                      have BK368 := n1_
                      have BK369 := n2_
                      have HB := n3_
                      clear n0_ n1_ n2_ n3_
                      have p382 : 0 ≤ (x4_1 : Int) := of_decide_eq_true (by first | (with_reducible assumption) | assumption)
                      have q382 : x4_1 < (t370.length : Int) := of_decide_eq_true (by first | (with_reducible assumption) | assumption)
                      obtain ⟨ad382, e382, hx382_0⟩ := Kd.at_string (Kd.R_reads' HO_3.out).2.2 x4_1 p382 q382
                      cases e382
                      replace p382 := eq_true p382
                      replace q382 := eq_true q382
                      refine start_ (n := 13) (S := fun w' => w'.cell? ⟨gb368, 0, none⟩ = some (.string a0_0) ∧ w'.cell? ⟨gb368, 1, none⟩ = some (.slice (some ad373) l0_1.length c0_1) ∧ w'.cell? ⟨gb368, 2, none⟩ = some (.int .i64 a0_2) ∧ w'.cell? (ad382.add (x4_1).toNat) = some (.string (rdOf ByteArray.empty t370 x4_1))) (ds := []) #[false, false, false, false, false, false, false, false, false, false, false, false, false] (by kernel_rfl) rfl rfl ⟨(blk_cell BK368.out 0).trans rfl, (blk_cell BK368.out 1).trans rfl, (blk_cell BK368.out 2).trans rfl, hx382_0⟩ (fun hHeld => ?_); refine with_tabW impl_Redo.tab11 impl_Redo.bits11 (fun HT_ HW_ => ?_)
                      generalize wr.drew = w55 at HO_3 BK368 BK369 HB hx382_0 hHeld ⊢
                      refine pure_ (i := 0) (N := some 48) (v := ?_) (a' := ?_) #[true, false, false, false, false, false, false, false, false, false, false, false, false] rfl rfl (any_of HT_.out (by kernel_rfl)) (fun _ _ _ h => h) (Or.inl ⟨by rfl, ?_⟩) ?_ ?_
                      rotate_left
                      · intro w'
                        go_simp
                        with_reducible rfl
                      rotate_left
                      · simp only [Act.put, List.setIfInBounds_toArray, List.set_cons_zero, List.set_cons_succ, i64_w, i32_w]
                        rfl
                      refine pure_ (i := 2) (N := some 50) (v := ?_) (a' := ?_) #[true, false, true, false, false, false, false, false, false, false, false, false, false] rfl rfl (any_of HT_.out (by kernel_rfl)) (fun _ _ _ h => h) (Or.inl ⟨by rfl, ?_⟩) ?_ ?_
                      rotate_left
                      · intro w'
                        go_simp
                        with_reducible rfl
                      rotate_left
                      · simp only [Act.put, List.setIfInBounds_toArray, List.set_cons_zero, List.set_cons_succ, i64_w, i32_w]
                        rfl
                      refine pure_ (i := 5) (N := some 53) (v := ?_) (a' := ?_) #[true, false, true, false, false, true, false, false, false, false, false, false, false] rfl rfl (any_of HT_.out (by kernel_rfl)) (fun _ _ _ h => h) (Or.inl ⟨by rfl, ?_⟩) ?_ ?_
                      rotate_left
                      · intro w'
                        go_simp
                        with_reducible rfl
                      rotate_left
                      · simp only [Act.put, List.setIfInBounds_toArray, List.set_cons_zero, List.set_cons_succ, i64_w, i32_w]
                        rfl
                      refine pure_ (i := 7) (N := some 55) (v := ?_) (a' := ?_) #[true, false, true, false, false, true, false, true, false, false, false, false, false] rfl rfl (any_of HT_.out (by kernel_rfl)) (fun _ _ _ h => h) (Or.inl ⟨by rfl, ?_⟩) ?_ ?_
                      rotate_left
                      · intro w'
                        go_simp
                        with_reducible rfl
                      rotate_left
                      · simp only [Act.put, List.setIfInBounds_toArray, List.set_cons_zero, List.set_cons_succ, i64_w, i32_w]
                        rfl
                      refine pure_ (i := 8) (N := some 56) (v := ?_) (a' := ?_) #[true, false, true, false, false, true, false, true, true, false, false, false, false] rfl rfl (any_of HT_.out (by kernel_rfl)) (fun _ _ _ h => h) (Or.inl ⟨by rfl, ?_⟩) ?_ ?_
                      rotate_left
                      · intro w'
                        go_simp
                        with_reducible rfl
                      rotate_left
                      · simp only [Act.put, List.setIfInBounds_toArray, List.set_cons_zero, List.set_cons_succ, i64_w, i32_w]
                        rfl
                      refine pure_ (i := 9) (N := some 57) (v := ?_) (a' := ?_) #[true, false, true, false, false, true, false, true, true, true, false, false, false] rfl rfl (any_of HT_.out (by kernel_rfl)) (fun _ _ _ h => h) (Or.inl ⟨by rfl, ?_⟩) ?_ ?_
                      rotate_left
                      · intro w'
                        go_simp
                        with_reducible rfl
                      rotate_left
                      · simp only [Act.put, List.setIfInBounds_toArray, List.set_cons_zero, List.set_cons_succ, i64_w, i32_w]
                        rfl
                      refine take_ (i := 1) (N := some 49) (v := ?_) (a' := ?_) #[true, true, true, false, false, true, false, true, true, true, false, false, false] rfl rfl (take_ofW HT_.out HW_.out (by kernel_rfl)) (fun _ _ _ h => h) (Or.inl ⟨by rfl, ?_⟩) hHeld ?_ ?_
                      rotate_left
                      · rintro w' ⟨s0, s1, s2, s3⟩
                        go_simp
                        with_reducible rfl
                      rotate_left
                      · simp only [Act.put, List.setIfInBounds_toArray, List.set_cons_zero, List.set_cons_succ, i64_w, i32_w]
                        rfl
                      refine take_ (i := 3) (N := some 51) (v := ?_) (a' := ?_) #[true, true, true, true, false, true, false, true, true, true, false, false, false] rfl rfl (take_ofW HT_.out HW_.out (by kernel_rfl)) (fun _ _ _ h => h) (Or.inl ⟨by rfl, ?_⟩) hHeld ?_ ?_
                      rotate_left
                      · rintro w' ⟨s0, s1, s2, s3⟩
                        go_simp
                        with_reducible rfl
                      rotate_left
                      · simp only [Act.put, List.setIfInBounds_toArray, List.set_cons_zero, List.set_cons_succ, i64_w, i32_w]
                        rfl
                      refine take_ (i := 10) (N := some 58) (v := ?_) (a' := ?_) #[true, true, true, true, false, true, false, true, true, true, true, false, false] rfl rfl (take_ofW HT_.out HW_.out (by kernel_rfl)) (fun _ _ _ h => h) (Or.inl ⟨by rfl, ?_⟩) hHeld ?_ ?_
                      rotate_left
                      · rintro w' ⟨s0, s1, s2, s3⟩
                        go_simp
                        with_reducible rfl
                      rotate_left
                      · simp only [Act.put, List.setIfInBounds_toArray, List.set_cons_zero, List.set_cons_succ, i64_w, i32_w]
                        rfl
                      refine one_ (i := 4) (N := some 52) #[true, true, true, true, true, true, false, true, true, true, true, false, false] rfl rfl (one_of HT_.out (by kernel_rfl)) (by decide) (fun K hK => ?_)
                      refine goes_ Try.func54 (by kernel_rfl) rfl #[.slice (some ad373) l0_1.length c0_1] (by rfl) rfl rfl (by (try simp only [List.map_toArray, List.map_cons, List.map_nil]); first | done | rfl | (simp only [List.length_drop, List.length_take]; rfl)) ?_
                      with_reducible refine (impl_Step.calls _ _ l0_1 t379 _ ?side1 ?side2 A50.out).mono ?_
                      (case side1 => exact Kd.C_below HR0_1.out i_)
                      (case side2 => exact HC0_1.out)
                      rintro e w56 ⟨v380, rfl, ho0, hb⟩
                      have HS3_ := (hb.cell (World.block_lt_of_cell? _ _ (hHeld.2.2.2))).trans (hHeld.2.2.2)
                      refine ⟨_, rfl, ?_⟩
                      have n0_ := am (rB HO_3.out i_ hb)
                      have n1_ := am (Kd.R_lower ho0 (below_size (w := w) i_))
                      have n2_ := am (blk_below (g := gb368) (o := .cells #[.string a0_0, .slice (some ad373) l0_1.length c0_1, .int .i64 a0_2] 29 (0, 0)) i_ hb)
                      have n3_ := am (blk_below (g := gb369) (o := .cells #[.int .i64 0, .string (⟨#[]⟩ : ByteArray), .slice none 0 0, .int .i64 0, .string (⟨#[]⟩ : ByteArray)] 50 (0, 0)) i_ hb)
                      have n4_ := am (below_step (w := w) i_ hb)
                      clear HO_3
                      clear BK368
                      clear BK369
                      clear HB
                      have HO_3 := n0_
                      have HO381 := n1_
                      have BK368 := n2_
                      have BK369 := n3_
                      have HB := n4_
                      clear n0_ n1_ n2_ n3_ n4_
                      ((try clear hb))
                      ((try clear hb2))
                      ((try clear hk))
                      ((try clear hi))
                      ((try clear ho0))
                      obtain ⟨Ao57, co57, eo57⟩ := Kd.R_slice HO381.out
                      (first | subst eo57 | (injection eo57 with f1_ f2_ f3_; have f4_ := f1_.symm; have f5_ := f3_.symm; clear f1_ f2_ f3_; subst f4_; subst f5_))
                      refine hK.out _ _ ⟨(blk_cell BK368.out 0).trans rfl, (blk_cell BK368.out 1).trans rfl, (blk_cell BK368.out 2).trans rfl, HS3_⟩ (fun hHeld => ?_)
                      clear hK K
                      refine norm_ (a' := ?_) ?_ ?_
                      rotate_left
                      · show Act.put _ (some 52) _ = _
                        simp only [Act.put, List.setIfInBounds_toArray, List.set_cons_zero, List.set_cons_succ, i64_w, i32_w]
                        rfl
                      refine pure_ (i := 6) (N := some 54) (v := ?_) (a' := ?_) #[true, true, true, true, true, true, true, true, true, true, true, false, false] rfl rfl (any_of HT_.out (by kernel_rfl)) (fun _ _ _ h => h) (Or.inl ⟨by rfl, ?_⟩) ?_ ?_
                      rotate_left
                      · intro w'
                        go_simp
                        with_reducible rfl
                      rotate_left
                      · simp only [Act.put, List.setIfInBounds_toArray, List.set_cons_zero, List.set_cons_succ, i64_w, i32_w]
                        rfl
                      refine pure_ (i := 11) (N := some 59) (v := ?_) (a' := ?_) #[true, true, true, true, true, true, true, true, true, true, true, true, false] rfl rfl (any_of HT_.out (by kernel_rfl)) (fun _ _ _ h => h) (Or.inl ⟨by rfl, ?_⟩) ?_ ?_
                      rotate_left
                      · intro w'
                        go_simp
                        with_reducible rfl
                      rotate_left
                      · simp only [Act.put, List.setIfInBounds_toArray, List.set_cons_zero, List.set_cons_succ, i64_w, i32_w]
                        rfl
                      refine one_ (i := 12) (N := none) #[true, true, true, true, true, true, true, true, true, true, true, true, true] rfl rfl (one_of HT_.out (by kernel_rfl)) (by decide) (fun K hK => ?_)
                      have hs58 : w56.cell? ⟨gb369, 0, none⟩ = some (.int .i64 0) := (blk_cell BK369.out 0).trans rfl
                      have hfs58 := blk_frozen BK369.out 0
                      have hns58_0 := NB368_369.out
                      have hms58_0 := NB369_368.out
                      have hs59 : w56.cell? ⟨gb369, 1, none⟩ = some (.string (⟨#[]⟩ : ByteArray)) := (blk_cell BK369.out 1).trans rfl
                      have hfs59 := blk_frozen BK369.out 1
                      have hns59_0 := NB368_369.out
                      have hms59_0 := NB369_368.out
                      have hs60 : w56.cell? ⟨gb369, 2, none⟩ = some (.slice none 0 0) := (blk_cell BK369.out 2).trans rfl
                      have hfs60 := blk_frozen BK369.out 2
                      have hns60_0 := NB368_369.out
                      have hms60_0 := NB369_368.out
                      have hs61 : w56.cell? ⟨gb369, 3, none⟩ = some (.int .i64 0) := (blk_cell BK369.out 3).trans rfl
                      have hfs61 := blk_frozen BK369.out 3
                      have hns61_0 := NB368_369.out
                      have hms61_0 := NB369_368.out
                      have hs62 : w56.cell? ⟨gb369, 4, none⟩ = some (.string (⟨#[]⟩ : ByteArray)) := (blk_cell BK369.out 4).trans rfl
                      have hfs62 := blk_frozen BK369.out 4
                      have hns62_0 := NB368_369.out
                      have hms62_0 := NB369_368.out
                      refine skip_ (w1 := ?_) (by rfl) rfl ?_ ?_
                      rotate_left
                      · go_simp
                        rfl
                      refine hK.out _ _ ⟨((cell_far (p := ⟨gb369, _, none⟩) NB368_369.out _).trans (((cell_far (p := ⟨gb369, _, none⟩) NB368_369.out _).trans (((cell_far (p := ⟨gb369, _, none⟩) NB368_369.out _).trans (((cell_far (p := ⟨gb369, _, none⟩) NB368_369.out _).trans (((cell_far (p := ⟨gb369, _, none⟩) NB368_369.out _).trans (hHeld.1)))))))))), ((cell_far (p := ⟨gb369, _, none⟩) NB368_369.out _).trans (((cell_far (p := ⟨gb369, _, none⟩) NB368_369.out _).trans (((cell_far (p := ⟨gb369, _, none⟩) NB368_369.out _).trans (((cell_far (p := ⟨gb369, _, none⟩) NB368_369.out _).trans (((cell_far (p := ⟨gb369, _, none⟩) NB368_369.out _).trans (hHeld.2.1)))))))))), ((cell_far (p := ⟨gb369, _, none⟩) NB368_369.out _).trans (((cell_far (p := ⟨gb369, _, none⟩) NB368_369.out _).trans (((cell_far (p := ⟨gb369, _, none⟩) NB368_369.out _).trans (((cell_far (p := ⟨gb369, _, none⟩) NB368_369.out _).trans (((cell_far (p := ⟨gb369, _, none⟩) NB368_369.out _).trans (hHeld.2.2.1)))))))))), ((cell_far (p := ⟨gb369, _, none⟩) (by first | exact Kd.own_blk (Kd.R_ne HO_3.out BK369.out (by decide)) | (rw [add_block]; exact Kd.own_blk (Kd.R_ne HO_3.out BK369.out (by decide))) | (show (Addr.add _ _).block ≠ _; rw [add_block]; exact Kd.own_blk (Kd.R_ne HO_3.out BK369.out (by decide))) | (dsimp only; exact Kd.own_blk (Kd.R_ne HO_3.out BK369.out (by decide)))) _).trans (((cell_far (p := ⟨gb369, _, none⟩) (by first | exact Kd.own_blk (Kd.R_ne HO_3.out BK369.out (by decide)) | (rw [add_block]; exact Kd.own_blk (Kd.R_ne HO_3.out BK369.out (by decide))) | (show (Addr.add _ _).block ≠ _; rw [add_block]; exact Kd.own_blk (Kd.R_ne HO_3.out BK369.out (by decide))) | (dsimp only; exact Kd.own_blk (Kd.R_ne HO_3.out BK369.out (by decide)))) _).trans (((cell_far (p := ⟨gb369, _, none⟩) (by first | exact Kd.own_blk (Kd.R_ne HO_3.out BK369.out (by decide)) | (rw [add_block]; exact Kd.own_blk (Kd.R_ne HO_3.out BK369.out (by decide))) | (show (Addr.add _ _).block ≠ _; rw [add_block]; exact Kd.own_blk (Kd.R_ne HO_3.out BK369.out (by decide))) | (dsimp only; exact Kd.own_blk (Kd.R_ne HO_3.out BK369.out (by decide)))) _).trans (((cell_far (p := ⟨gb369, _, none⟩) (by first | exact Kd.own_blk (Kd.R_ne HO_3.out BK369.out (by decide)) | (rw [add_block]; exact Kd.own_blk (Kd.R_ne HO_3.out BK369.out (by decide))) | (show (Addr.add _ _).block ≠ _; rw [add_block]; exact Kd.own_blk (Kd.R_ne HO_3.out BK369.out (by decide))) | (dsimp only; exact Kd.own_blk (Kd.R_ne HO_3.out BK369.out (by decide)))) _).trans (((cell_far (p := ⟨gb369, _, none⟩) (by first | exact Kd.own_blk (Kd.R_ne HO_3.out BK369.out (by decide)) | (rw [add_block]; exact Kd.own_blk (Kd.R_ne HO_3.out BK369.out (by decide))) | (show (Addr.add _ _).block ≠ _; rw [add_block]; exact Kd.own_blk (Kd.R_ne HO_3.out BK369.out (by decide))) | (dsimp only; exact Kd.own_blk (Kd.R_ne HO_3.out BK369.out (by decide)))) _).trans (hHeld.2.2.2))))))))))⟩ (fun hHeld => ?_)
                      clear hK K
                      refine done_ (done_of HT_.out (by kernel_rfl)) ?_
                      try go_wp2
                      refine bodyPost_ret (results_cell_row rfl _ _ gb369 50 #[.int .i64 0, .string a0_0, .slice Ao57 t379.length co57, .int .i64 x4_1, .string (rdOf ByteArray.empty t370 x4_1)] (0, 0) _ rfl (by (with_reducible repeat (first | refine blk_drewN ?_ _ | refine blk_drew ?_ | refine blk_alloc ?_ _)); refine blk_put (cs := #[.int .i64 0, .string a0_0, .slice Ao57 t379.length co57, .int .i64 x4_1, .string (⟨#[]⟩ : ByteArray)]) ?_ 4 _ rfl; (with_reducible repeat (first | refine blk_drewN ?_ _ | refine blk_drew ?_ | refine blk_alloc ?_ _)); refine blk_put (cs := #[.int .i64 0, .string a0_0, .slice Ao57 t379.length co57, .int .i64 0, .string (⟨#[]⟩ : ByteArray)]) ?_ 3 _ rfl; (with_reducible repeat (first | refine blk_drewN ?_ _ | refine blk_drew ?_ | refine blk_alloc ?_ _)); refine blk_put (cs := #[.int .i64 0, .string a0_0, .slice none 0 0, .int .i64 0, .string (⟨#[]⟩ : ByteArray)]) ?_ 2 _ rfl; (with_reducible repeat (first | refine blk_drewN ?_ _ | refine blk_drew ?_ | refine blk_alloc ?_ _)); refine blk_put (cs := #[.int .i64 0, .string (⟨#[]⟩ : ByteArray), .slice none 0 0, .int .i64 0, .string (⟨#[]⟩ : ByteArray)]) ?_ 1 _ rfl; (with_reducible repeat (first | refine blk_drewN ?_ _ | refine blk_drew ?_ | refine blk_alloc ?_ _)); refine blk_put (cs := #[.int .i64 0, .string (⟨#[]⟩ : ByteArray), .slice none 0 0, .int .i64 0, .string (⟨#[]⟩ : ByteArray)]) ?_ 0 _ rfl; (with_reducible repeat (first | refine blk_drewN ?_ _ | refine blk_drew ?_ | refine blk_alloc ?_ _)); exact BK369.out) Try.underlying50 rfl (by kernel_rfl)) rfl ?_
                      exact ⟨_, by first | rfl | (simp [errW_none, errW_some] <;> rfl) | (simp [*, errW_none, errW_some] <;> rfl), by (with_reducible repeat (first | apply Kd.R_alloc | apply Kd.R_drewN | apply Kd.R_drew)); exact Kd.R_mono (Kd.R_far (p := ⟨gb369, 4, none⟩) (Kd.R_far (p := ⟨gb369, 3, none⟩) (Kd.R_far (p := ⟨gb369, 2, none⟩) (Kd.R_far (p := ⟨gb369, 1, none⟩) (Kd.R_far (p := ⟨gb369, 0, none⟩) (Kd.R_types HO381.out BK369.out (by decide)) (fun _ hk => hk.2) (.int .i64 0)) (fun _ hk => hk.2) (.string a0_0)) (fun _ hk => hk.2) (.slice Ao57 t379.length co57)) (fun _ hk => hk.2) (.int .i64 x4_1)) (fun _ hk => hk.2) (.string (rdOf ByteArray.empty t370 x4_1))) (fun _ hk => trivial), i_⟩
                    · rw [if_neg c52] at H
                      exact absurd H (by simp)
                  · rw [if_neg c51] at H
                    exact absurd H (by simp)
              · rw [if_neg c32] at H
                have c32b0 : decide (0 < ((rd_T68 l0_1 a0_2).f3)) = false := decide_eq_false c32
                clear c32
                replace H := Option.bind_eq_some_iff.mp H
                obtain ⟨t383, A630, H⟩ := H
                replace H : (if 0 ≤ x4_1 then (if x4_1 < (t370.length : Int) then (some (0, a0_0, t383, x4_1, rdOf ByteArray.empty t370 x4_1)) else (none)) else (none)) = some (r1, r2, r3, r4, r5) := H
                have A63 := am A630
                clear A630
                by_cases c64 : 0 ≤ x4_1
                · rw [if_pos c64] at H
                  have c64b0 : decide (0 ≤ x4_1) = true := decide_eq_true c64
                  clear c64
                  by_cases c65 : x4_1 < (t370.length : Int)
                  · rw [if_pos c65] at H
                    have c65b0 : decide (x4_1 < (t370.length : Int)) = true := decide_eq_true c65
                    clear c65
                    simp only [Option.some.injEq, Prod.mk.injEq] at H
                    obtain ⟨rfl, rfl, rfl, rfl, rfl⟩ := H
                    try go_wp2
                    have n0_ := am (Kd.R_drew HO_3.out)
                    have n1_ := am (blk_drew BK368.out)
                    have n2_ := am (blk_drew BK369.out)
                    have n3_ := am (below_drew1 HB.out)
                    clear HO_3
                    clear BK368
                    clear BK369
                    clear HB
                    have HO_3 := n0_
                    have BK368 := n1_
                    have BK369 := n2_
                    have HB := n3_
                    clear n0_ n1_ n2_ n3_
                    have p386 : 0 ≤ (x4_1 : Int) := of_decide_eq_true (by first | (with_reducible assumption) | assumption)
                    have q386 : x4_1 < (t370.length : Int) := of_decide_eq_true (by first | (with_reducible assumption) | assumption)
                    obtain ⟨ad386, e386, hx386_0⟩ := Kd.at_string (Kd.R_reads' HO_3.out).2.2 x4_1 p386 q386
                    cases e386
                    replace p386 := eq_true p386
                    replace q386 := eq_true q386
                    refine start_ (n := 13) (S := fun w' => w'.cell? ⟨gb368, 0, none⟩ = some (.string a0_0) ∧ w'.cell? ⟨gb368, 1, none⟩ = some (.slice (some ad373) l0_1.length c0_1) ∧ w'.cell? ⟨gb368, 2, none⟩ = some (.int .i64 a0_2) ∧ w'.cell? (ad386.add (x4_1).toNat) = some (.string (rdOf ByteArray.empty t370 x4_1))) (ds := []) #[false, false, false, false, false, false, false, false, false, false, false, false, false] (by kernel_rfl) rfl rfl ⟨(blk_cell BK368.out 0).trans rfl, (blk_cell BK368.out 1).trans rfl, (blk_cell BK368.out 2).trans rfl, hx386_0⟩ (fun hHeld => ?_); refine with_tabW impl_Redo.tab11 impl_Redo.bits11 (fun HT_ HW_ => ?_)
                    generalize wr.drew = w66 at HO_3 BK368 BK369 HB hx386_0 hHeld ⊢
                    refine pure_ (i := 0) (N := some 48) (v := ?_) (a' := ?_) #[true, false, false, false, false, false, false, false, false, false, false, false, false] rfl rfl (any_of HT_.out (by kernel_rfl)) (fun _ _ _ h => h) (Or.inl ⟨by rfl, ?_⟩) ?_ ?_
                    rotate_left
                    · intro w'
                      go_simp
                      with_reducible rfl
                    rotate_left
                    · simp only [Act.put, List.setIfInBounds_toArray, List.set_cons_zero, List.set_cons_succ, i64_w, i32_w]
                      rfl
                    refine pure_ (i := 2) (N := some 50) (v := ?_) (a' := ?_) #[true, false, true, false, false, false, false, false, false, false, false, false, false] rfl rfl (any_of HT_.out (by kernel_rfl)) (fun _ _ _ h => h) (Or.inl ⟨by rfl, ?_⟩) ?_ ?_
                    rotate_left
                    · intro w'
                      go_simp
                      with_reducible rfl
                    rotate_left
                    · simp only [Act.put, List.setIfInBounds_toArray, List.set_cons_zero, List.set_cons_succ, i64_w, i32_w]
                      rfl
                    refine pure_ (i := 5) (N := some 53) (v := ?_) (a' := ?_) #[true, false, true, false, false, true, false, false, false, false, false, false, false] rfl rfl (any_of HT_.out (by kernel_rfl)) (fun _ _ _ h => h) (Or.inl ⟨by rfl, ?_⟩) ?_ ?_
                    rotate_left
                    · intro w'
                      go_simp
                      with_reducible rfl
                    rotate_left
                    · simp only [Act.put, List.setIfInBounds_toArray, List.set_cons_zero, List.set_cons_succ, i64_w, i32_w]
                      rfl
                    refine pure_ (i := 7) (N := some 55) (v := ?_) (a' := ?_) #[true, false, true, false, false, true, false, true, false, false, false, false, false] rfl rfl (any_of HT_.out (by kernel_rfl)) (fun _ _ _ h => h) (Or.inl ⟨by rfl, ?_⟩) ?_ ?_
                    rotate_left
                    · intro w'
                      go_simp
                      with_reducible rfl
                    rotate_left
                    · simp only [Act.put, List.setIfInBounds_toArray, List.set_cons_zero, List.set_cons_succ, i64_w, i32_w]
                      rfl
                    refine pure_ (i := 8) (N := some 56) (v := ?_) (a' := ?_) #[true, false, true, false, false, true, false, true, true, false, false, false, false] rfl rfl (any_of HT_.out (by kernel_rfl)) (fun _ _ _ h => h) (Or.inl ⟨by rfl, ?_⟩) ?_ ?_
                    rotate_left
                    · intro w'
                      go_simp
                      with_reducible rfl
                    rotate_left
                    · simp only [Act.put, List.setIfInBounds_toArray, List.set_cons_zero, List.set_cons_succ, i64_w, i32_w]
                      rfl
                    refine pure_ (i := 9) (N := some 57) (v := ?_) (a' := ?_) #[true, false, true, false, false, true, false, true, true, true, false, false, false] rfl rfl (any_of HT_.out (by kernel_rfl)) (fun _ _ _ h => h) (Or.inl ⟨by rfl, ?_⟩) ?_ ?_
                    rotate_left
                    · intro w'
                      go_simp
                      with_reducible rfl
                    rotate_left
                    · simp only [Act.put, List.setIfInBounds_toArray, List.set_cons_zero, List.set_cons_succ, i64_w, i32_w]
                      rfl
                    refine take_ (i := 1) (N := some 49) (v := ?_) (a' := ?_) #[true, true, true, false, false, true, false, true, true, true, false, false, false] rfl rfl (take_ofW HT_.out HW_.out (by kernel_rfl)) (fun _ _ _ h => h) (Or.inl ⟨by rfl, ?_⟩) hHeld ?_ ?_
                    rotate_left
                    · rintro w' ⟨s0, s1, s2, s3⟩
                      go_simp
                      with_reducible rfl
                    rotate_left
                    · simp only [Act.put, List.setIfInBounds_toArray, List.set_cons_zero, List.set_cons_succ, i64_w, i32_w]
                      rfl
                    refine take_ (i := 3) (N := some 51) (v := ?_) (a' := ?_) #[true, true, true, true, false, true, false, true, true, true, false, false, false] rfl rfl (take_ofW HT_.out HW_.out (by kernel_rfl)) (fun _ _ _ h => h) (Or.inl ⟨by rfl, ?_⟩) hHeld ?_ ?_
                    rotate_left
                    · rintro w' ⟨s0, s1, s2, s3⟩
                      go_simp
                      with_reducible rfl
                    rotate_left
                    · simp only [Act.put, List.setIfInBounds_toArray, List.set_cons_zero, List.set_cons_succ, i64_w, i32_w]
                      rfl
                    refine take_ (i := 10) (N := some 58) (v := ?_) (a' := ?_) #[true, true, true, true, false, true, false, true, true, true, true, false, false] rfl rfl (take_ofW HT_.out HW_.out (by kernel_rfl)) (fun _ _ _ h => h) (Or.inl ⟨by rfl, ?_⟩) hHeld ?_ ?_
                    rotate_left
                    · rintro w' ⟨s0, s1, s2, s3⟩
                      go_simp
                      with_reducible rfl
                    rotate_left
                    · simp only [Act.put, List.setIfInBounds_toArray, List.set_cons_zero, List.set_cons_succ, i64_w, i32_w]
                      rfl
                    refine one_ (i := 4) (N := some 52) #[true, true, true, true, true, true, false, true, true, true, true, false, false] rfl rfl (one_of HT_.out (by kernel_rfl)) (by decide) (fun K hK => ?_)
                    refine goes_ Try.func54 (by kernel_rfl) rfl #[.slice (some ad373) l0_1.length c0_1] (by rfl) rfl rfl (by (try simp only [List.map_toArray, List.map_cons, List.map_nil]); first | done | rfl | (simp only [List.length_drop, List.length_take]; rfl)) ?_
                    with_reducible refine (impl_Step.calls _ _ l0_1 t383 _ ?side1 ?side2 A63.out).mono ?_
                    (case side1 => exact Kd.C_below HR0_1.out i_)
                    (case side2 => exact HC0_1.out)
                    rintro e w67 ⟨v384, rfl, ho0, hb⟩
                    have HS3_ := (hb.cell (World.block_lt_of_cell? _ _ (hHeld.2.2.2))).trans (hHeld.2.2.2)
                    refine ⟨_, rfl, ?_⟩
                    have n0_ := am (rB HO_3.out i_ hb)
                    have n1_ := am (Kd.R_lower ho0 (below_size (w := w) i_))
                    have n2_ := am (blk_below (g := gb368) (o := .cells #[.string a0_0, .slice (some ad373) l0_1.length c0_1, .int .i64 a0_2] 29 (0, 0)) i_ hb)
                    have n3_ := am (blk_below (g := gb369) (o := .cells #[.int .i64 0, .string (⟨#[]⟩ : ByteArray), .slice none 0 0, .int .i64 0, .string (⟨#[]⟩ : ByteArray)] 50 (0, 0)) i_ hb)
                    have n4_ := am (below_step (w := w) i_ hb)
                    clear HO_3
                    clear BK368
                    clear BK369
                    clear HB
                    have HO_3 := n0_
                    have HO385 := n1_
                    have BK368 := n2_
                    have BK369 := n3_
                    have HB := n4_
                    clear n0_ n1_ n2_ n3_ n4_
                    ((try clear hb))
                    ((try clear hb2))
                    ((try clear hk))
                    ((try clear hi))
                    ((try clear ho0))
                    obtain ⟨Ao68, co68, eo68⟩ := Kd.R_slice HO385.out
                    (first | subst eo68 | (injection eo68 with f1_ f2_ f3_; have f4_ := f1_.symm; have f5_ := f3_.symm; clear f1_ f2_ f3_; subst f4_; subst f5_))
                    refine hK.out _ _ ⟨(blk_cell BK368.out 0).trans rfl, (blk_cell BK368.out 1).trans rfl, (blk_cell BK368.out 2).trans rfl, HS3_⟩ (fun hHeld => ?_)
                    clear hK K
                    refine norm_ (a' := ?_) ?_ ?_
                    rotate_left
                    · show Act.put _ (some 52) _ = _
                      simp only [Act.put, List.setIfInBounds_toArray, List.set_cons_zero, List.set_cons_succ, i64_w, i32_w]
                      rfl
                    refine pure_ (i := 6) (N := some 54) (v := ?_) (a' := ?_) #[true, true, true, true, true, true, true, true, true, true, true, false, false] rfl rfl (any_of HT_.out (by kernel_rfl)) (fun _ _ _ h => h) (Or.inl ⟨by rfl, ?_⟩) ?_ ?_
                    rotate_left
                    · intro w'
                      go_simp
                      with_reducible rfl
                    rotate_left
                    · simp only [Act.put, List.setIfInBounds_toArray, List.set_cons_zero, List.set_cons_succ, i64_w, i32_w]
                      rfl
                    refine pure_ (i := 11) (N := some 59) (v := ?_) (a' := ?_) #[true, true, true, true, true, true, true, true, true, true, true, true, false] rfl rfl (any_of HT_.out (by kernel_rfl)) (fun _ _ _ h => h) (Or.inl ⟨by rfl, ?_⟩) ?_ ?_
                    rotate_left
                    · intro w'
                      go_simp
                      with_reducible rfl
                    rotate_left
                    · simp only [Act.put, List.setIfInBounds_toArray, List.set_cons_zero, List.set_cons_succ, i64_w, i32_w]
                      rfl
                    refine one_ (i := 12) (N := none) #[true, true, true, true, true, true, true, true, true, true, true, true, true] rfl rfl (one_of HT_.out (by kernel_rfl)) (by decide) (fun K hK => ?_)
                    have hs69 : w67.cell? ⟨gb369, 0, none⟩ = some (.int .i64 0) := (blk_cell BK369.out 0).trans rfl
                    have hfs69 := blk_frozen BK369.out 0
                    have hns69_0 := NB368_369.out
                    have hms69_0 := NB369_368.out
                    have hs70 : w67.cell? ⟨gb369, 1, none⟩ = some (.string (⟨#[]⟩ : ByteArray)) := (blk_cell BK369.out 1).trans rfl
                    have hfs70 := blk_frozen BK369.out 1
                    have hns70_0 := NB368_369.out
                    have hms70_0 := NB369_368.out
                    have hs71 : w67.cell? ⟨gb369, 2, none⟩ = some (.slice none 0 0) := (blk_cell BK369.out 2).trans rfl
                    have hfs71 := blk_frozen BK369.out 2
                    have hns71_0 := NB368_369.out
                    have hms71_0 := NB369_368.out
                    have hs72 : w67.cell? ⟨gb369, 3, none⟩ = some (.int .i64 0) := (blk_cell BK369.out 3).trans rfl
                    have hfs72 := blk_frozen BK369.out 3
                    have hns72_0 := NB368_369.out
                    have hms72_0 := NB369_368.out
                    have hs73 : w67.cell? ⟨gb369, 4, none⟩ = some (.string (⟨#[]⟩ : ByteArray)) := (blk_cell BK369.out 4).trans rfl
                    have hfs73 := blk_frozen BK369.out 4
                    have hns73_0 := NB368_369.out
                    have hms73_0 := NB369_368.out
                    refine skip_ (w1 := ?_) (by rfl) rfl ?_ ?_
                    rotate_left
                    · go_simp
                      rfl
                    refine hK.out _ _ ⟨((cell_far (p := ⟨gb369, _, none⟩) NB368_369.out _).trans (((cell_far (p := ⟨gb369, _, none⟩) NB368_369.out _).trans (((cell_far (p := ⟨gb369, _, none⟩) NB368_369.out _).trans (((cell_far (p := ⟨gb369, _, none⟩) NB368_369.out _).trans (((cell_far (p := ⟨gb369, _, none⟩) NB368_369.out _).trans (hHeld.1)))))))))), ((cell_far (p := ⟨gb369, _, none⟩) NB368_369.out _).trans (((cell_far (p := ⟨gb369, _, none⟩) NB368_369.out _).trans (((cell_far (p := ⟨gb369, _, none⟩) NB368_369.out _).trans (((cell_far (p := ⟨gb369, _, none⟩) NB368_369.out _).trans (((cell_far (p := ⟨gb369, _, none⟩) NB368_369.out _).trans (hHeld.2.1)))))))))), ((cell_far (p := ⟨gb369, _, none⟩) NB368_369.out _).trans (((cell_far (p := ⟨gb369, _, none⟩) NB368_369.out _).trans (((cell_far (p := ⟨gb369, _, none⟩) NB368_369.out _).trans (((cell_far (p := ⟨gb369, _, none⟩) NB368_369.out _).trans (((cell_far (p := ⟨gb369, _, none⟩) NB368_369.out _).trans (hHeld.2.2.1)))))))))), ((cell_far (p := ⟨gb369, _, none⟩) (by first | exact Kd.own_blk (Kd.R_ne HO_3.out BK369.out (by decide)) | (rw [add_block]; exact Kd.own_blk (Kd.R_ne HO_3.out BK369.out (by decide))) | (show (Addr.add _ _).block ≠ _; rw [add_block]; exact Kd.own_blk (Kd.R_ne HO_3.out BK369.out (by decide))) | (dsimp only; exact Kd.own_blk (Kd.R_ne HO_3.out BK369.out (by decide)))) _).trans (((cell_far (p := ⟨gb369, _, none⟩) (by first | exact Kd.own_blk (Kd.R_ne HO_3.out BK369.out (by decide)) | (rw [add_block]; exact Kd.own_blk (Kd.R_ne HO_3.out BK369.out (by decide))) | (show (Addr.add _ _).block ≠ _; rw [add_block]; exact Kd.own_blk (Kd.R_ne HO_3.out BK369.out (by decide))) | (dsimp only; exact Kd.own_blk (Kd.R_ne HO_3.out BK369.out (by decide)))) _).trans (((cell_far (p := ⟨gb369, _, none⟩) (by first | exact Kd.own_blk (Kd.R_ne HO_3.out BK369.out (by decide)) | (rw [add_block]; exact Kd.own_blk (Kd.R_ne HO_3.out BK369.out (by decide))) | (show (Addr.add _ _).block ≠ _; rw [add_block]; exact Kd.own_blk (Kd.R_ne HO_3.out BK369.out (by decide))) | (dsimp only; exact Kd.own_blk (Kd.R_ne HO_3.out BK369.out (by decide)))) _).trans (((cell_far (p := ⟨gb369, _, none⟩) (by first | exact Kd.own_blk (Kd.R_ne HO_3.out BK369.out (by decide)) | (rw [add_block]; exact Kd.own_blk (Kd.R_ne HO_3.out BK369.out (by decide))) | (show (Addr.add _ _).block ≠ _; rw [add_block]; exact Kd.own_blk (Kd.R_ne HO_3.out BK369.out (by decide))) | (dsimp only; exact Kd.own_blk (Kd.R_ne HO_3.out BK369.out (by decide)))) _).trans (((cell_far (p := ⟨gb369, _, none⟩) (by first | exact Kd.own_blk (Kd.R_ne HO_3.out BK369.out (by decide)) | (rw [add_block]; exact Kd.own_blk (Kd.R_ne HO_3.out BK369.out (by decide))) | (show (Addr.add _ _).block ≠ _; rw [add_block]; exact Kd.own_blk (Kd.R_ne HO_3.out BK369.out (by decide))) | (dsimp only; exact Kd.own_blk (Kd.R_ne HO_3.out BK369.out (by decide)))) _).trans (hHeld.2.2.2))))))))))⟩ (fun hHeld => ?_)
                    clear hK K
                    refine done_ (done_of HT_.out (by kernel_rfl)) ?_
                    try go_wp2
                    refine bodyPost_ret (results_cell_row rfl _ _ gb369 50 #[.int .i64 0, .string a0_0, .slice Ao68 t383.length co68, .int .i64 x4_1, .string (rdOf ByteArray.empty t370 x4_1)] (0, 0) _ rfl (by (with_reducible repeat (first | refine blk_drewN ?_ _ | refine blk_drew ?_ | refine blk_alloc ?_ _)); refine blk_put (cs := #[.int .i64 0, .string a0_0, .slice Ao68 t383.length co68, .int .i64 x4_1, .string (⟨#[]⟩ : ByteArray)]) ?_ 4 _ rfl; (with_reducible repeat (first | refine blk_drewN ?_ _ | refine blk_drew ?_ | refine blk_alloc ?_ _)); refine blk_put (cs := #[.int .i64 0, .string a0_0, .slice Ao68 t383.length co68, .int .i64 0, .string (⟨#[]⟩ : ByteArray)]) ?_ 3 _ rfl; (with_reducible repeat (first | refine blk_drewN ?_ _ | refine blk_drew ?_ | refine blk_alloc ?_ _)); refine blk_put (cs := #[.int .i64 0, .string a0_0, .slice none 0 0, .int .i64 0, .string (⟨#[]⟩ : ByteArray)]) ?_ 2 _ rfl; (with_reducible repeat (first | refine blk_drewN ?_ _ | refine blk_drew ?_ | refine blk_alloc ?_ _)); refine blk_put (cs := #[.int .i64 0, .string (⟨#[]⟩ : ByteArray), .slice none 0 0, .int .i64 0, .string (⟨#[]⟩ : ByteArray)]) ?_ 1 _ rfl; (with_reducible repeat (first | refine blk_drewN ?_ _ | refine blk_drew ?_ | refine blk_alloc ?_ _)); refine blk_put (cs := #[.int .i64 0, .string (⟨#[]⟩ : ByteArray), .slice none 0 0, .int .i64 0, .string (⟨#[]⟩ : ByteArray)]) ?_ 0 _ rfl; (with_reducible repeat (first | refine blk_drewN ?_ _ | refine blk_drew ?_ | refine blk_alloc ?_ _)); exact BK369.out) Try.underlying50 rfl (by kernel_rfl)) rfl ?_
                    exact ⟨_, by first | rfl | (simp [errW_none, errW_some] <;> rfl) | (simp [*, errW_none, errW_some] <;> rfl), by (with_reducible repeat (first | apply Kd.R_alloc | apply Kd.R_drewN | apply Kd.R_drew)); exact Kd.R_mono (Kd.R_far (p := ⟨gb369, 4, none⟩) (Kd.R_far (p := ⟨gb369, 3, none⟩) (Kd.R_far (p := ⟨gb369, 2, none⟩) (Kd.R_far (p := ⟨gb369, 1, none⟩) (Kd.R_far (p := ⟨gb369, 0, none⟩) (Kd.R_types HO385.out BK369.out (by decide)) (fun _ hk => hk.2) (.int .i64 0)) (fun _ hk => hk.2) (.string a0_0)) (fun _ hk => hk.2) (.slice Ao68 t383.length co68)) (fun _ hk => hk.2) (.int .i64 x4_1)) (fun _ hk => hk.2) (.string (rdOf ByteArray.empty t370 x4_1))) (fun _ hk => trivial), i_⟩
                  · rw [if_neg c65] at H
                    exact absurd H (by simp)
                · rw [if_neg c64] at H
                  exact absurd H (by simp)
        · rw [if_neg c23] at H
          exact absurd H (by simp)
      · rw [if_neg c22] at H
        exact absurd H (by simp)

end Go.Proofs.Ytopbiepiceajnaa.Q
