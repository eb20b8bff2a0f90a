-- Written by xprint.py (wip/ of this repository): one Lean function and its proof for each Go function.
import Derived.Test.YtopbiepiceajnaaQx0
import Derived.Test.YtopbiepiceajnaaQx1
import Derived.Test.YtopbiepiceajnaaQx2
import Derived.Test.YtopbiepiceajnaaQx3
namespace Go.Proofs.Ytopbiepiceajnaa.Q
open Go.RowKit Go.Proofs.YtopbiepiceajnaaW.PrintWords Go.Proofs.YtopbiepiceajnaaW.PrintLast Go.Proofs.YtopbiepiceajnaaW.PrintMore
attribute [local go_sem] max2_int min2_int max_two min_two max_three min_three max_four min_four   -- for this text's walks alone
set_option linter.unusedVariables false
set_option linter.unusedSimpArgs false

/-! ### laws_eqStepS: function 50 -/
def laws_eqStepS.l0 : Nat → List (S68) → List (S68) → Int → Option (Bool)
  | 0, _, _, _ => none
  | k + 1, x0, x1, x5 => if x5 < (x0.length : Int) then (if 0 ≤ x5 then (if x5 < (x1.length : Int) then ((laws_eqStep.f ((rd_T68 x0 x5).f0) ((rd_T68 x0 x5).f1) ((rd_T68 x0 x5).f2) ((rd_T68 x0 x5).f3) ((rd_T68 x1 x5).f0) ((rd_T68 x1 x5).f1) ((rd_T68 x1 x5).f2) ((rd_T68 x1 x5).f3)).bind fun t158 => (if t158 = true then (laws_eqStepS.l0 k x0 x1 (wrap64 (x5 + 1))) else (none))) else (none)) else (none)) else (some true)
def laws_eqStepS.f (k : Nat) (l0 : List (S68)) (l1 : List (S68)) : Option (Bool) := if (l0.length : Int) = (l1.length : Int) then (laws_eqStepS.l0 k l0 l1 0) else (none)
theorem laws_eqStepS.mono_l : ∀ k, (∀ y0 y1 y2, LeO (laws_eqStepS.l0 k y0 y1 y2) (laws_eqStepS.l0 (k + 1) y0 y1 y2))
  | 0 => fun _ _ _ r h => by simp [laws_eqStepS.l0] at h
  | k + 1 => by
    have ih0 := laws_eqStepS.mono_l k
    · intro y0 y1 y2
      unfold laws_eqStepS.l0
      repeat' first
      | (with_reducible exact ih0 _ _ _)
      | (with_reducible exact LeO.refl _)
      | (with_reducible exact LeO.none _)
      | (with_reducible refine LeO.ite ?_ ?_)
      | (with_reducible refine LeO.bind ?_ (fun _ => ?_))
      | exact ih0 _ _ _
      | exact LeO.none _
      | refine LeO.ite ?_ ?_
      | refine LeO.bind ?_ (fun _ => ?_)
theorem laws_eqStepS.mono : ∀ a0 a1 k, LeO (laws_eqStepS.f k a0 a1) (laws_eqStepS.f (k + 1) a0 a1) := by
  intro a0 a1 k
  have ih0 := laws_eqStepS.mono_l k
  unfold laws_eqStepS.f
  repeat' first
      | (with_reducible exact ih0 _ _ _)
      | (with_reducible exact LeO.refl _)
      | (with_reducible exact LeO.none _)
      | (with_reducible refine LeO.ite ?_ ?_)
      | (with_reducible refine LeO.bind ?_ (fun _ => ?_))
      | exact ih0 _ _ _
      | exact LeO.none _
      | refine LeO.ite ?_ ?_
      | refine LeO.bind ?_ (fun _ => ?_)
def laws_eqStepS.T6 : Bool × List (List Nat × List Nat) := (true, [([], []), ([], []), ([0, 1], [0, 1]), ([2], [2]), ([], []), ([], []), ([4, 5], [4, 5]), ([6], [6]), ([3, 7], [3, 7]), ([8], [8])])
def laws_eqStepS.B6 : List Nat := [0, 0, 3, 7, 0, 0, 48, 112, 255, 511]
theorem laws_eqStepS.tab6 : rtab .any (opsOf Try.f50 6) = laws_eqStepS.T6 := by kernel_rfl
theorem laws_eqStepS.bits6 : waitsOk laws_eqStepS.T6.2 laws_eqStepS.B6 = true := by kernel_rfl
set_option maxHeartbeats 8000000 in
set_option maxRecDepth 100000 in
theorem laws_eqStepS.calls (k : Nat) (A0 : Option Addr) (c0 : Nat) (l0 : List (S68)) (A1 : Option Addr) (c1 : Nat) (l1 : List (S68)) (r : Bool) (w : World) (hr0 : Kd.C k68 w A0 l0.length l0) (hc0 : l0.length ≤ c0) (hr1 : Kd.C k68 w A1 l1.length l1) (hc1 : l1.length ≤ c1) (h : laws_eqStepS.f k l0 l1 = some r) :
    Calls Try.prog 50 #[.slice A0 l0.length c0, .slice A1 l1.length c1] w fun e w' => e = .returned (.bool r) ∧ Below w.heap.size w w' := by
  have hu68 := Try.underlying68
  have HR0 := am hr0
  have HC0 := am hc0
  clear hr0 hc0
  have HR1 := am hr1
  have HC1 := am hc1
  clear hr1 hc1
  have HB := am (Below.refl w.heap.size w)
  have H : (if (l0.length : Int) = (l1.length : Int) then (laws_eqStepS.l0 k l0 l1 0) else (none)) = some r := h
  clear h
  by_cases c3 : (l0.length : Int) = (l1.length : Int)
  · rw [if_pos c3] at H
    have c3b0 : ((l0.length : Int) == (l1.length : Int)) = true := beq_iff_eq.mpr c3
    have c3b1 : ((l0.length : Int) != (l1.length : Int)) = false := bne_eq_false_iff_eq.mpr c3
    have c3b2 : (l0.length == l1.length) = true := by first | simpa using c3 | (simp at c3 ⊢; omega)
    clear c3
    have H' := am H
    clear H
    go_enter Try.func50, Try.ntmps50
    go_wp2
    go_loopg [5] k (fun kq v5 w' => ∃ (x5_1 : Int), v5 = .int .i64 x5_1 ∧ Fc (laws_eqStepS.l0 kq l0 l1 x5_1 = some r) ∧ Fc (kq ≤ k) ∧ Fc (Below w.heap.size w w'))
    case atStart => exact ⟨(0), (by first | rfl | (simp; done) | (simp [*]; done)), H', ⟨Nat.le_refl _⟩, ⟨i_⟩⟩
    case round =>
      clear H'
      (try clear c1); (try clear p2); (try clear c3); (try clear c3b0); (try clear c3b1); (try clear c3b2)
      obtain ⟨x5_1, rfl, HA, HK1, HB⟩ := hrel
      cases gk with
      | zero => exact absurd HA.out (by simp [laws_eqStepS.l0])
      | succ k1 =>
        have H := HA.out
        clear HA
        simp only [laws_eqStepS.l0] at H
        by_cases c4 : x5_1 < (l0.length : Int)
        · rw [if_pos c4] at H
          have c4b0 : decide (x5_1 < (l0.length : Int)) = true := decide_eq_true c4
          clear c4
          by_cases c5 : 0 ≤ x5_1
          · rw [if_pos c5] at H
            have c5b0 : decide (0 ≤ x5_1) = true := decide_eq_true c5
            clear c5
            by_cases c6 : x5_1 < (l1.length : Int)
            · rw [if_pos c6] at H
              have c6b0 : decide (x5_1 < (l1.length : Int)) = true := decide_eq_true c6
              clear c6
              replace H := Option.bind_eq_some_iff.mp H
              obtain ⟨t158, A70, H⟩ := H
              replace H : (if t158 = true then (laws_eqStepS.l0 k1 l0 l1 (wrap64 (x5_1 + 1))) else (none)) = some r := H
              have A7 := am A70
              clear A70
              by_cases c8 : t158 = true
              · subst c8
                have H1 : (laws_eqStepS.l0 k1 l0 l1 (wrap64 (x5_1 + 1))) = some r := by rw [if_pos rfl] at H; exact H
                clear H
                have H := H1
                clear H1
                have H' := am H
                clear H
                try go_wp2
                have n0_ := am (below_drew1 HB.out)
                clear HB
                have HB := n0_
                clear n0_
                have p156 : 0 ≤ (x5_1 : Int) := of_decide_eq_true (by first | (with_reducible assumption) | assumption)
                have q156 : x5_1 < (l0.length : Int) := of_decide_eq_true (by first | (with_reducible assumption) | assumption)
                obtain ⟨ad156, e156, hx156_0, hx156_1, hx156_2, hx156_3⟩ := at_T68 HR0.out x5_1 p156 q156
                have hw156_3 := hx156_3
                have hw156_2 := hx156_2
                have hw156_1 := hx156_1
                have hw156_0 := hx156_0
                cases e156
                replace hx156_0 := (HB.out.cell (World.block_lt_of_cell? w _ hx156_0)).trans hx156_0
                replace hx156_1 := (HB.out.cell (World.block_lt_of_cell? w _ hx156_1)).trans hx156_1
                replace hx156_2 := (HB.out.cell (World.block_lt_of_cell? w _ hx156_2)).trans hx156_2
                replace hx156_3 := (HB.out.cell (World.block_lt_of_cell? w _ hx156_3)).trans hx156_3
                replace p156 := eq_true p156
                replace q156 := eq_true q156
                have p157 : 0 ≤ (x5_1 : Int) := of_decide_eq_true (by first | (with_reducible assumption) | assumption)
                have q157 : x5_1 < (l1.length : Int) := of_decide_eq_true (by first | (with_reducible assumption) | assumption)
                obtain ⟨ad157, e157, hx157_0, hx157_1, hx157_2, hx157_3⟩ := at_T68 HR1.out x5_1 p157 q157
                have hw157_3 := hx157_3
                have hw157_2 := hx157_2
                have hw157_1 := hx157_1
                have hw157_0 := hx157_0
                cases e157
                replace hx157_0 := (HB.out.cell (World.block_lt_of_cell? w _ hx157_0)).trans hx157_0
                replace hx157_1 := (HB.out.cell (World.block_lt_of_cell? w _ hx157_1)).trans hx157_1
                replace hx157_2 := (HB.out.cell (World.block_lt_of_cell? w _ hx157_2)).trans hx157_2
                replace hx157_3 := (HB.out.cell (World.block_lt_of_cell? w _ hx157_3)).trans hx157_3
                replace p157 := eq_true p157
                replace q157 := eq_true q157
                refine start_ (n := 10) (S := fun w' => w'.cell? (ad156.add ((x5_1).toNat * 4)) = some (.int .i64 ((rd_T68 l0 x5_1).f0)) ∧ w'.cell? ⟨(ad156.add ((x5_1).toNat * 4)).block, (ad156.add ((x5_1).toNat * 4)).off + 1, none⟩ = some (.string ((rd_T68 l0 x5_1).f1)) ∧ w'.cell? ⟨(ad156.add ((x5_1).toNat * 4)).block, (ad156.add ((x5_1).toNat * 4)).off + 2, none⟩ = some (.string ((rd_T68 l0 x5_1).f2)) ∧ w'.cell? ⟨(ad156.add ((x5_1).toNat * 4)).block, (ad156.add ((x5_1).toNat * 4)).off + 3, none⟩ = some (.int .i64 ((rd_T68 l0 x5_1).f3)) ∧ w'.cell? (ad157.add ((x5_1).toNat * 4)) = some (.int .i64 ((rd_T68 l1 x5_1).f0)) ∧ w'.cell? ⟨(ad157.add ((x5_1).toNat * 4)).block, (ad157.add ((x5_1).toNat * 4)).off + 1, none⟩ = some (.string ((rd_T68 l1 x5_1).f1)) ∧ w'.cell? ⟨(ad157.add ((x5_1).toNat * 4)).block, (ad157.add ((x5_1).toNat * 4)).off + 2, none⟩ = some (.string ((rd_T68 l1 x5_1).f2)) ∧ w'.cell? ⟨(ad157.add ((x5_1).toNat * 4)).block, (ad157.add ((x5_1).toNat * 4)).off + 3, none⟩ = some (.int .i64 ((rd_T68 l1 x5_1).f3))) (ds := []) #[false, false, false, false, false, false, false, false, false, false] (by kernel_rfl) rfl rfl ⟨((HB.out.cell (World.block_lt_of_cell? w _ hw156_0)).trans hw156_0), ((HB.out.cell (World.block_lt_of_cell? w _ hw156_1)).trans hw156_1), ((HB.out.cell (World.block_lt_of_cell? w _ hw156_2)).trans hw156_2), ((HB.out.cell (World.block_lt_of_cell? w _ hw156_3)).trans hw156_3), ((HB.out.cell (World.block_lt_of_cell? w _ hw157_0)).trans hw157_0), ((HB.out.cell (World.block_lt_of_cell? w _ hw157_1)).trans hw157_1), ((HB.out.cell (World.block_lt_of_cell? w _ hw157_2)).trans hw157_2), ((HB.out.cell (World.block_lt_of_cell? w _ hw157_3)).trans hw157_3)⟩ (fun hHeld => ?_); refine with_tabW laws_eqStepS.tab6 laws_eqStepS.bits6 (fun HT_ HW_ => ?_)
                generalize wr.drew = w9 at HB hx156_0 hx156_1 hx156_2 hx156_3 hx157_0 hx157_1 hx157_2 hx157_3 hHeld ⊢
                refine pure_ (i := 0) (N := some 17) (v := ?_) (a' := ?_) #[true, false, false, false, false, false, false, false, false, false] rfl rfl (any_of HT_.out (by kernel_rfl)) (fun _ _ _ h => h) (Or.inl ⟨by rfl, ?_⟩) ?_ ?_
                rotate_left
                · intro w'
                  go_simp
                  with_reducible rfl
                rotate_left
                · simp only [Act.put, List.setIfInBounds_toArray, List.set_cons_zero, List.set_cons_succ, i64_w, i32_w]
                  rfl
                refine pure_ (i := 1) (N := some 18) (v := ?_) (a' := ?_) #[true, true, false, false, false, false, false, false, false, false] rfl rfl (any_of HT_.out (by kernel_rfl)) (fun _ _ _ h => h) (Or.inl ⟨by rfl, ?_⟩) ?_ ?_
                rotate_left
                · intro w'
                  go_simp
                  with_reducible rfl
                rotate_left
                · simp only [Act.put, List.setIfInBounds_toArray, List.set_cons_zero, List.set_cons_succ, i64_w, i32_w]
                  rfl
                refine pure_ (i := 2) (N := some 19) (v := ?_) (a' := ?_) #[true, true, true, false, false, false, false, false, false, false] rfl rfl (any_of HT_.out (by kernel_rfl)) (fun _ _ _ h => h) (Or.inl ⟨by rfl, ?_⟩) ?_ ?_
                rotate_left
                · intro w'
                  go_simp
                  with_reducible rfl
                rotate_left
                · simp only [Act.put, List.setIfInBounds_toArray, List.set_cons_zero, List.set_cons_succ, i64_w, i32_w]
                  rfl
                refine pure_ (i := 4) (N := some 21) (v := ?_) (a' := ?_) #[true, true, true, false, true, false, false, false, false, false] rfl rfl (any_of HT_.out (by kernel_rfl)) (fun _ _ _ h => h) (Or.inl ⟨by rfl, ?_⟩) ?_ ?_
                rotate_left
                · intro w'
                  go_simp
                  with_reducible rfl
                rotate_left
                · simp only [Act.put, List.setIfInBounds_toArray, List.set_cons_zero, List.set_cons_succ, i64_w, i32_w]
                  rfl
                refine pure_ (i := 5) (N := some 22) (v := ?_) (a' := ?_) #[true, true, true, false, true, true, false, false, false, false] rfl rfl (any_of HT_.out (by kernel_rfl)) (fun _ _ _ h => h) (Or.inl ⟨by rfl, ?_⟩) ?_ ?_
                rotate_left
                · intro w'
                  go_simp
                  with_reducible rfl
                rotate_left
                · simp only [Act.put, List.setIfInBounds_toArray, List.set_cons_zero, List.set_cons_succ, i64_w, i32_w]
                  rfl
                refine pure_ (i := 6) (N := some 23) (v := ?_) (a' := ?_) #[true, true, true, false, true, true, true, false, false, false] rfl rfl (any_of HT_.out (by kernel_rfl)) (fun _ _ _ h => h) (Or.inl ⟨by rfl, ?_⟩) ?_ ?_
                rotate_left
                · intro w'
                  go_simp
                  with_reducible rfl
                rotate_left
                · simp only [Act.put, List.setIfInBounds_toArray, List.set_cons_zero, List.set_cons_succ, i64_w, i32_w]
                  rfl
                refine take_ (i := 3) (N := some 20) (v := ?_) (a' := ?_) #[true, true, true, true, true, true, true, false, false, false] rfl rfl (take_ofW HT_.out HW_.out (by kernel_rfl)) (fun _ _ _ h => h) (Or.inl ⟨by rfl, ?_⟩) hHeld ?_ ?_
                rotate_left
                · rintro w' ⟨s0, s1, s2, s3, s4, s5, s6, s7⟩
                  go_simp
                  with_reducible rfl
                rotate_left
                · simp only [Act.put, List.setIfInBounds_toArray, List.set_cons_zero, List.set_cons_succ, i64_w, i32_w]
                  rfl
                refine take_ (i := 7) (N := some 24) (v := ?_) (a' := ?_) #[true, true, true, true, true, true, true, true, false, false] rfl rfl (take_ofW HT_.out HW_.out (by kernel_rfl)) (fun _ _ _ h => h) (Or.inl ⟨by rfl, ?_⟩) hHeld ?_ ?_
                rotate_left
                · rintro w' ⟨s0, s1, s2, s3, s4, s5, s6, s7⟩
                  go_simp
                  with_reducible rfl
                rotate_left
                · simp only [Act.put, List.setIfInBounds_toArray, List.set_cons_zero, List.set_cons_succ, i64_w, i32_w]
                  rfl
                refine one_ (i := 8) (N := some 25) #[true, true, true, true, true, true, true, true, true, false] rfl rfl (one_of HT_.out (by kernel_rfl)) (by decide) (fun K hK => ?_)
                refine goes_ Try.func75 (by kernel_rfl) rfl #[.agg #[.int .i64 ((rd_T68 l0 x5_1).f0), .string ((rd_T68 l0 x5_1).f1), .string ((rd_T68 l0 x5_1).f2), .int .i64 ((rd_T68 l0 x5_1).f3)], .agg #[.int .i64 ((rd_T68 l1 x5_1).f0), .string ((rd_T68 l1 x5_1).f1), .string ((rd_T68 l1 x5_1).f2), .int .i64 ((rd_T68 l1 x5_1).f3)]] (by rfl) rfl rfl (by (try simp only [List.map_toArray, List.map_cons, List.map_nil]); first | done | rfl | (simp only [List.length_drop, List.length_take]; rfl)) ?_
                with_reducible refine (laws_eqStep.calls ((rd_T68 l0 x5_1).f0) ((rd_T68 l0 x5_1).f1) ((rd_T68 l0 x5_1).f2) ((rd_T68 l0 x5_1).f3) ((rd_T68 l1 x5_1).f0) ((rd_T68 l1 x5_1).f1) ((rd_T68 l1 x5_1).f2) ((rd_T68 l1 x5_1).f3) true _ A7.out).mono ?_
                rintro e w10 ⟨rfl, hb⟩
                refine ⟨_, rfl, ?_⟩
                have n0_ := am (below_step (w := w) i_ hb)
                clear HB
                have HB := n0_
                clear n0_
                ((try clear hb))
                ((try clear hb2))
                ((try clear hk))
                ((try clear hi))
                refine hK.out _ _ ⟨((HB.out.cell (World.block_lt_of_cell? w _ hw156_0)).trans hw156_0), ((HB.out.cell (World.block_lt_of_cell? w _ hw156_1)).trans hw156_1), ((HB.out.cell (World.block_lt_of_cell? w _ hw156_2)).trans hw156_2), ((HB.out.cell (World.block_lt_of_cell? w _ hw156_3)).trans hw156_3), ((HB.out.cell (World.block_lt_of_cell? w _ hw157_0)).trans hw157_0), ((HB.out.cell (World.block_lt_of_cell? w _ hw157_1)).trans hw157_1), ((HB.out.cell (World.block_lt_of_cell? w _ hw157_2)).trans hw157_2), ((HB.out.cell (World.block_lt_of_cell? w _ hw157_3)).trans hw157_3)⟩ (fun hHeld => ?_)
                clear hK K
                refine norm_ (a' := ?_) ?_ ?_
                rotate_left
                · show Act.put _ (some 25) _ = _
                  simp only [Act.put, List.setIfInBounds_toArray, List.set_cons_zero, List.set_cons_succ, i64_w, i32_w]
                  rfl
                refine pure_ (i := 9) (N := some 26) (v := ?_) (a' := ?_) #[true, true, true, true, true, true, true, true, true, true] rfl rfl (any_of HT_.out (by kernel_rfl)) (fun _ _ _ h => h) (Or.inl ⟨by rfl, ?_⟩) ?_ ?_
                rotate_left
                · intro w'
                  go_simp
                  with_reducible rfl
                rotate_left
                · simp only [Act.put, List.setIfInBounds_toArray, List.set_cons_zero, List.set_cons_succ, i64_w, i32_w]
                  rfl
                refine done_ (done_of HT_.out (by kernel_rfl)) ?_
                try go_wp2
                go_roundg k1
                case measure => have := HK1.out; omega
                case rel => exact ⟨(wrap64 (x5_1 + 1)), (by first | rfl | (simp; done) | (simp [*]; done)), H', ⟨by have := HK1.out; omega⟩, ⟨i_⟩⟩
              · replace c8 := Bool.eq_false_iff.mpr c8
                subst c8
                have H1 : (none) = some r := by rw [if_neg (show ¬ (false = true) by decide)] at H; exact H
                clear H
                have H := H1
                clear H1
                exact absurd H (by simp)
            · rw [if_neg c6] at H
              exact absurd H (by simp)
          · rw [if_neg c5] at H
            exact absurd H (by simp)
        · rw [if_neg c4] at H
          have c4b0 : decide (x5_1 < (l0.length : Int)) = false := decide_eq_false c4
          clear c4
          obtain rfl := Option.some.inj H
          go_wp2
          go_ret
          exact ⟨by first | rfl | (simp [errW_none, errW_some] <;> rfl) | (simp [*, errW_none, errW_some] <;> rfl), i_⟩
  · rw [if_neg c3] at H
    exact absurd H (by simp)

/-! ### laws_eqHistory: function 16 -/
def laws_eqHistory.f (k : Nat) (a0_0 : ByteArray) (l0_1 : List (S68)) (a0_2 : Int) (a1_0 : ByteArray) (l1_1 : List (S68)) (a1_2 : Int) : Option (Bool) := if a0_0.toList = a1_0.toList then ((laws_eqStepS.f k l0_1 l1_1).bind fun t161 => (if t161 = true then (if a0_2 = a1_2 then (some true) else (none)) else (none))) else (none)
theorem laws_eqHistory.mono : ∀ a0 a1 a2 a3 a4 a5 k, LeO (laws_eqHistory.f k a0 a1 a2 a3 a4 a5) (laws_eqHistory.f (k + 1) a0 a1 a2 a3 a4 a5) := by
  intro a0 a1 a2 a3 a4 a5 k
  unfold laws_eqHistory.f
  repeat' first
      | (with_reducible exact laws_eqStepS.mono _ _ _)
      | (with_reducible exact LeO.refl _)
      | (with_reducible exact LeO.none _)
      | (with_reducible refine LeO.ite ?_ ?_)
      | (with_reducible refine LeO.bind ?_ (fun _ => ?_))
      | exact laws_eqStepS.mono _ _ _
      | exact LeO.none _
      | refine LeO.ite ?_ ?_
      | refine LeO.bind ?_ (fun _ => ?_)
set_option maxHeartbeats 8000000 in
set_option maxRecDepth 100000 in
theorem laws_eqHistory.calls (k : Nat) (a0_0 : ByteArray) (A0_1 : Option Addr) (c0_1 : Nat) (l0_1 : List (S68)) (a0_2 : Int) (a1_0 : ByteArray) (A1_1 : Option Addr) (c1_1 : Nat) (l1_1 : List (S68)) (a1_2 : Int) (r : Bool) (w : World) (hr0_1 : Kd.C k68 w A0_1 l0_1.length l0_1) (hc0_1 : l0_1.length ≤ c0_1) (hr1_1 : Kd.C k68 w A1_1 l1_1.length l1_1) (hc1_1 : l1_1.length ≤ c1_1) (h : laws_eqHistory.f k a0_0 l0_1 a0_2 a1_0 l1_1 a1_2 = some r) :
    Calls Try.prog 16 #[.agg #[.string a0_0, .slice A0_1 l0_1.length c0_1, .int .i64 a0_2], .agg #[.string a1_0, .slice A1_1 l1_1.length c1_1, .int .i64 a1_2]] w fun e w' => e = .returned (.bool r) ∧ Below w.heap.size w w' := by
  have hu29 := Try.underlying29
  have HR0_1 := am hr0_1
  have HC0_1 := am hc0_1
  clear hr0_1 hc0_1
  have HR1_1 := am hr1_1
  have HC1_1 := am hc1_1
  clear hr1_1 hc1_1
  have HB := am (Below.refl w.heap.size w)
  have H : (if a0_0.toList = a1_0.toList then ((laws_eqStepS.f k l0_1 l1_1).bind fun t161 => (if t161 = true then (if a0_2 = a1_2 then (some true) else (none)) else (none))) else (none)) = some r := h
  clear h
  by_cases c3 : a0_0.toList = a1_0.toList
  · rw [if_pos c3] at H
    have c3b0 : (a0_0.toList == a1_0.toList) = true := beq_iff_eq.mpr c3
    have c3b1 : (a0_0.toList != a1_0.toList) = false := bne_eq_false_iff_eq.mpr c3
    clear c3
    replace H := Option.bind_eq_some_iff.mp H
    obtain ⟨t161, A40, H⟩ := H
    replace H : (if t161 = true then (if a0_2 = a1_2 then (some true) else (none)) else (none)) = some r := H
    have A4 := am A40
    clear A40
    by_cases c5 : t161 = true
    · subst c5
      have H1 : (if a0_2 = a1_2 then (some true) else (none)) = some r := by rw [if_pos rfl] at H; exact H
      clear H
      have H := H1
      clear H1
      by_cases c6 : a0_2 = a1_2
      · rw [if_pos c6] at H
        have c6b0 : (a0_2 == a1_2) = true := beq_iff_eq.mpr c6
        have c6b1 : (a0_2 != a1_2) = false := bne_eq_false_iff_eq.mpr c6
        clear c6
        obtain rfl := Option.some.inj H
        go_enter Try.func16, Try.ntmps16
        go_wp2_with (first | ((with_reducible refine gate_dst (N := 2) rfl ?_); refine bX (N := 2) (cs := #[.string a0_0, .slice A0_1 l0_1.length c0_1, .int .i64 a0_2]) (t := 29) ?_; intro gb159 hg w7 hbox hb; have BK159 := am (hbox); have GW159 := am ((by rw [hg]; exact (below_size (w := w) i_) : w.heap.size ≤ gb159)); have GE159 := am ((by rw [hg]; exact (below_size (w := w) i_) : w.heap.size ≤ gb159)); replace HB := am (below_step (w := w) i_ hb); clear hb hbox hg) | ((with_reducible refine gate_dst (N := 3) rfl ?_); refine bX (N := 3) (cs := #[.string a1_0, .slice A1_1 l1_1.length c1_1, .int .i64 a1_2]) (t := 29) ?_; intro gb160 hg w8 hbox hb; have BK160 := am (hbox); have GW160 := am ((by rw [hg]; exact (below_size (w := w) i_) : w.heap.size ≤ gb160)); have GE160 := am ((by rw [hg]; exact (below_size (w := w) i_) : w.heap.size ≤ gb160)); have NB159_160 := am ((by rw [hg]; exact Nat.ne_of_lt (blk_lt (g := gb159) (o := .cells #[.string a0_0, .slice A0_1 l0_1.length c0_1, .int .i64 a0_2] 29 (0, 0)) i_) : gb159 ≠ gb160)); have NB160_159 := am ((by rw [hg]; exact Nat.ne_of_gt (blk_lt (g := gb159) (o := .cells #[.string a0_0, .slice A0_1 l0_1.length c0_1, .int .i64 a0_2] 29 (0, 0)) i_) : gb160 ≠ gb159)); replace BK159 := am (blk_below (g := gb159) (o := .cells #[.string a0_0, .slice A0_1 l0_1.length c0_1, .int .i64 a0_2] 29 (0, 0)) i_ hb); replace HB := am (below_step (w := w) i_ hb); clear hb hbox hg; have hnb9 := NB159_160.out; have hnc9 := NB160_159.out; have hcz10 := bc3 BK159.out; have hcz11 := bc3 BK160.out) | ((with_reducible refine gate_callee (f := 50) rfl ?_); refine gL (some 14) Try.func50 #[.slice A0_1 l0_1.length c0_1, .slice A1_1 l1_1.length c1_1] rfl ?_; (with_reducible refine (laws_eqStepS.calls k _ _ l0_1 _ _ l1_1 true _ ?side1 ?side2 ?side3 ?side4 A4.out).mono ?_); (case side1 => exact Kd.C_below HR0_1.out i_); (case side2 => exact HC0_1.out); (case side3 => exact Kd.C_below HR1_1.out i_); (case side4 => exact HC1_1.out); rintro e w12 ⟨rfl, hb⟩; refine ⟨_, rfl, ?_⟩; replace BK159 := am (blk_below (g := gb159) (o := .cells #[.string a0_0, .slice A0_1 l0_1.length c0_1, .int .i64 a0_2] 29 (0, 0)) i_ hb); replace BK160 := am (blk_below (g := gb160) (o := .cells #[.string a1_0, .slice A1_1 l1_1.length c1_1, .int .i64 a1_2] 29 (0, 0)) i_ hb); replace HB := am (below_step (w := w) i_ hb); (try clear hb); (try clear hb2); (try clear hk); (try clear hi); have hcz13 := bc3 BK159.out; have hcz14 := bc3 BK160.out))
        go_ret
        exact ⟨by first | rfl | (simp [errW_none, errW_some] <;> rfl) | (simp [*, errW_none, errW_some] <;> rfl), i_⟩
      · rw [if_neg c6] at H
        exact absurd H (by simp)
    · replace c5 := Bool.eq_false_iff.mpr c5
      subst c5
      have H1 : (none) = some r := by rw [if_neg (show ¬ (false = true) by decide)] at H; exact H
      clear H
      have H := H1
      clear H1
      exact absurd H (by simp)
  · rw [if_neg c3] at H
    exact absurd H (by simp)

/-! ### laws_FnExactHistoryFault: function 3 -/
def laws_FnExactHistoryFault.f (k : Nat) (a0_0 : ByteArray) (l0_1 : List (S96)) (a0_2 : Int) : Option (Bool) := (laws_szHistory.f k a0_0 l0_1 a0_2 1048576).bind fun t163 => (if t163 < 0 then (some true) else ((laws_toHistory.f k a0_0 l0_1 a0_2).bind fun bt164 => ((spec_HistoryFault.f k bt164.1 bt164.2.1 bt164.2.2).bind fun t169 => ((laws_toHistory.f k a0_0 l0_1 a0_2).bind fun bt170 => ((impl_HistoryFault.f k bt170.1 bt170.2.1 bt170.2.2).bind fun t176 => (if t176 = t169 then ((laws_toHistory.f k a0_0 l0_1 a0_2).bind fun bt177 => ((laws_eqHistory.f k bt170.1 bt170.2.1 bt170.2.2 bt177.1 bt177.2.1 bt177.2.2).bind fun t182 => (if t182 = true then (some true) else (none)))) else (none)))))))
theorem laws_FnExactHistoryFault.mono : ∀ a0 a1 a2 k, LeO (laws_FnExactHistoryFault.f k a0 a1 a2) (laws_FnExactHistoryFault.f (k + 1) a0 a1 a2) := by
  intro a0 a1 a2 k
  unfold laws_FnExactHistoryFault.f
  repeat' first
      | (with_reducible exact impl_HistoryFault.mono _ _ _ _)
      | (with_reducible exact laws_eqHistory.mono _ _ _ _ _ _ _)
      | (with_reducible exact laws_szHistory.mono _ _ _ _ _)
      | (with_reducible exact laws_toHistory.mono _ _ _ _)
      | (with_reducible exact spec_HistoryFault.mono _ _ _ _)
      | (with_reducible exact LeO.refl _)
      | (with_reducible exact LeO.none _)
      | (with_reducible refine LeO.ite ?_ ?_)
      | (with_reducible refine LeO.bind ?_ (fun _ => ?_))
      | exact impl_HistoryFault.mono _ _ _ _
      | exact laws_eqHistory.mono _ _ _ _ _ _ _
      | exact laws_szHistory.mono _ _ _ _ _
      | exact laws_toHistory.mono _ _ _ _
      | exact spec_HistoryFault.mono _ _ _ _
      | exact LeO.none _
      | refine LeO.ite ?_ ?_
      | refine LeO.bind ?_ (fun _ => ?_)
set_option maxHeartbeats 8000000 in
set_option maxRecDepth 100000 in
theorem laws_FnExactHistoryFault.calls (k : Nat) (a0_0 : ByteArray) (A0_1 : Option Addr) (c0_1 : Nat) (l0_1 : List (S96)) (a0_2 : Int) (r : Bool) (w : World) (hr0_1 : Kd.C k96 w A0_1 l0_1.length l0_1) (hc0_1 : l0_1.length ≤ c0_1) (h : laws_FnExactHistoryFault.f k a0_0 l0_1 a0_2 = some r) :
    Calls Try.prog 3 #[.agg #[.string a0_0, .slice A0_1 l0_1.length c0_1, .int .i64 a0_2]] w fun e w' => e = .returned (.bool r) ∧ Below w.heap.size w w' := by
  have hu24 := Try.underlying24
  have hu29 := Try.underlying29
  have HR0_1 := am hr0_1
  have HC0_1 := am hc0_1
  clear hr0_1 hc0_1
  have HB := am (Below.refl w.heap.size w)
  have H : ((laws_szHistory.f k a0_0 l0_1 a0_2 1048576).bind fun t163 => (if t163 < 0 then (some true) else ((laws_toHistory.f k a0_0 l0_1 a0_2).bind fun bt164 => ((spec_HistoryFault.f k bt164.1 bt164.2.1 bt164.2.2).bind fun t169 => ((laws_toHistory.f k a0_0 l0_1 a0_2).bind fun bt170 => ((impl_HistoryFault.f k bt170.1 bt170.2.1 bt170.2.2).bind fun t176 => (if t176 = t169 then ((laws_toHistory.f k a0_0 l0_1 a0_2).bind fun bt177 => ((laws_eqHistory.f k bt170.1 bt170.2.1 bt170.2.2 bt177.1 bt177.2.1 bt177.2.2).bind fun t182 => (if t182 = true then (some true) else (none)))) else (none)))))))) = some r := h
  clear h
  replace H := Option.bind_eq_some_iff.mp H
  obtain ⟨t163, A20, H⟩ := H
  replace H : (if t163 < 0 then (some true) else ((laws_toHistory.f k a0_0 l0_1 a0_2).bind fun bt164 => ((spec_HistoryFault.f k bt164.1 bt164.2.1 bt164.2.2).bind fun t169 => ((laws_toHistory.f k a0_0 l0_1 a0_2).bind fun bt170 => ((impl_HistoryFault.f k bt170.1 bt170.2.1 bt170.2.2).bind fun t176 => (if t176 = t169 then ((laws_toHistory.f k a0_0 l0_1 a0_2).bind fun bt177 => ((laws_eqHistory.f k bt170.1 bt170.2.1 bt170.2.2 bt177.1 bt177.2.1 bt177.2.2).bind fun t182 => (if t182 = true then (some true) else (none)))) else (none))))))) = some r := H
  have A2 := am A20
  clear A20
  by_cases c3 : t163 < 0
  · rw [if_pos c3] at H
    have c3b0 : decide (t163 < 0) = true := decide_eq_true c3
    clear c3
    obtain rfl := Option.some.inj H
    go_enter Try.func3, Try.ntmps3
    go_wp2_with (first | ((with_reducible refine gate_dst (N := 1) rfl ?_); refine bX (N := 1) (cs := #[.string a0_0, .slice A0_1 l0_1.length c0_1, .int .i64 a0_2]) (t := 24) ?_; intro gb162 hg w4 hbox hb; have BK162 := am (hbox); have GW162 := am ((by rw [hg]; exact (below_size (w := w) i_) : w.heap.size ≤ gb162)); have GE162 := am ((by rw [hg]; exact (below_size (w := w) i_) : w.heap.size ≤ gb162)); replace HB := am (below_step (w := w) i_ hb); clear hb hbox hg; have hcz5 := bc3 BK162.out) | ((with_reducible refine gate_callee (f := 12) rfl ?_); refine gL (some 9) Try.func12 #[.agg #[.string a0_0, .slice A0_1 l0_1.length c0_1, .int .i64 a0_2], .int .i64 1048576] rfl ?_; (with_reducible refine (laws_szHistory.calls k a0_0 _ _ l0_1 a0_2 1048576 t163 _ ?side1 ?side2 A2.out).mono ?_); (case side1 => exact Kd.C_below HR0_1.out i_); (case side2 => exact HC0_1.out); rintro e w6 ⟨rfl, hb⟩; refine ⟨_, rfl, ?_⟩; replace BK162 := am (blk_below (g := gb162) (o := .cells #[.string a0_0, .slice A0_1 l0_1.length c0_1, .int .i64 a0_2] 24 (0, 0)) i_ hb); replace HB := am (below_step (w := w) i_ hb); (try clear hb); (try clear hb2); (try clear hk); ((try clear hi))))
    go_ret
    exact ⟨by first | rfl | (simp [errW_none, errW_some] <;> rfl) | (simp [*, errW_none, errW_some] <;> rfl), i_⟩
  · rw [if_neg c3] at H
    have c3b0 : decide (t163 < 0) = false := decide_eq_false c3
    clear c3
    replace H := Option.bind_eq_some_iff.mp H
    obtain ⟨⟨t164, t165, t168⟩, A70, H⟩ := H
    replace H : ((spec_HistoryFault.f k t164 t165 t168).bind fun t169 => ((laws_toHistory.f k a0_0 l0_1 a0_2).bind fun bt170 => ((impl_HistoryFault.f k bt170.1 bt170.2.1 bt170.2.2).bind fun t176 => (if t176 = t169 then ((laws_toHistory.f k a0_0 l0_1 a0_2).bind fun bt177 => ((laws_eqHistory.f k bt170.1 bt170.2.1 bt170.2.2 bt177.1 bt177.2.1 bt177.2.2).bind fun t182 => (if t182 = true then (some true) else (none)))) else (none))))) = some r := H
    have A7 := am A70
    clear A70
    replace H := Option.bind_eq_some_iff.mp H
    obtain ⟨t169, A80, H⟩ := H
    replace H : ((laws_toHistory.f k a0_0 l0_1 a0_2).bind fun bt170 => ((impl_HistoryFault.f k bt170.1 bt170.2.1 bt170.2.2).bind fun t176 => (if t176 = t169 then ((laws_toHistory.f k a0_0 l0_1 a0_2).bind fun bt177 => ((laws_eqHistory.f k bt170.1 bt170.2.1 bt170.2.2 bt177.1 bt177.2.1 bt177.2.2).bind fun t182 => (if t182 = true then (some true) else (none)))) else (none)))) = some r := H
    have A8 := am A80
    clear A80
    replace H := Option.bind_eq_some_iff.mp H
    obtain ⟨⟨t170, t171, t174⟩, A90, H⟩ := H
    replace H : ((impl_HistoryFault.f k t170 t171 t174).bind fun t176 => (if t176 = t169 then ((laws_toHistory.f k a0_0 l0_1 a0_2).bind fun bt177 => ((laws_eqHistory.f k t170 t171 t174 bt177.1 bt177.2.1 bt177.2.2).bind fun t182 => (if t182 = true then (some true) else (none)))) else (none))) = some r := H
    have A9 := am A90
    clear A90
    replace H := Option.bind_eq_some_iff.mp H
    obtain ⟨t176, A100, H⟩ := H
    replace H : (if t176 = t169 then ((laws_toHistory.f k a0_0 l0_1 a0_2).bind fun bt177 => ((laws_eqHistory.f k t170 t171 t174 bt177.1 bt177.2.1 bt177.2.2).bind fun t182 => (if t182 = true then (some true) else (none)))) else (none)) = some r := H
    have A10 := am A100
    clear A100
    by_cases c11 : t176 = t169
    · rw [if_pos c11] at H
      have c11b0 : (t176 == t169) = true := beq_iff_eq.mpr c11
      have c11b1 : (t176 != t169) = false := bne_eq_false_iff_eq.mpr c11
      clear c11
      replace H := Option.bind_eq_some_iff.mp H
      obtain ⟨⟨t177, t178, t181⟩, A120, H⟩ := H
      replace H : ((laws_eqHistory.f k t170 t171 t174 t177 t178 t181).bind fun t182 => (if t182 = true then (some true) else (none))) = some r := H
      have A12 := am A120
      clear A120
      replace H := Option.bind_eq_some_iff.mp H
      obtain ⟨t182, A130, H⟩ := H
      replace H : (if t182 = true then (some true) else (none)) = some r := H
      have A13 := am A130
      clear A130
      by_cases c14 : t182 = true
      · subst c14
        have H1 : (some true) = some r := by rw [if_pos rfl] at H; exact H
        clear H
        have H := H1
        clear H1
        obtain rfl := Option.some.inj H
        go_enter Try.func3, Try.ntmps3
        try go_wp2_with (first | ((with_reducible refine gate_dst (N := 1) rfl ?_); refine bX (N := 1) (cs := #[.string a0_0, .slice A0_1 l0_1.length c0_1, .int .i64 a0_2]) (t := 24) ?_; intro gb162 hg w15 hbox hb; have BK162 := am (hbox); have GW162 := am ((by rw [hg]; exact (below_size (w := w) i_) : w.heap.size ≤ gb162)); have GE162 := am ((by rw [hg]; exact (below_size (w := w) i_) : w.heap.size ≤ gb162)); replace HB := am (below_step (w := w) i_ hb); clear hb hbox hg; have hcz16 := bc3 BK162.out) | ((with_reducible refine gate_callee (f := 12) rfl ?_); refine gL (some 9) Try.func12 #[.agg #[.string a0_0, .slice A0_1 l0_1.length c0_1, .int .i64 a0_2], .int .i64 1048576] rfl ?_; (with_reducible refine (laws_szHistory.calls k a0_0 _ _ l0_1 a0_2 1048576 t163 _ ?side1 ?side2 A2.out).mono ?_); (case side1 => exact Kd.C_below HR0_1.out i_); (case side2 => exact HC0_1.out); rintro e w17 ⟨rfl, hb⟩; refine ⟨_, rfl, ?_⟩; replace BK162 := am (blk_below (g := gb162) (o := .cells #[.string a0_0, .slice A0_1 l0_1.length c0_1, .int .i64 a0_2] 24 (0, 0)) i_ hb); replace HB := am (below_step (w := w) i_ hb); (try clear hb); (try clear hb2); (try clear hk); (try clear hi); have hcz18 := bc3 BK162.out) | ((with_reducible refine gate_callee (f := 14) rfl ?_); refine gL (some 13) Try.func14 #[.agg #[.string a0_0, .slice A0_1 l0_1.length c0_1, .int .i64 a0_2]] rfl ?_; (with_reducible refine (laws_toHistory.calls k a0_0 _ _ l0_1 a0_2 t164 t165 t168 _ ?side1 ?side2 A7.out).mono ?_); (case side1 => exact Kd.C_below HR0_1.out i_); (case side2 => exact HC0_1.out); rintro e w19 ⟨v166, rfl, ho0, hb⟩; refine ⟨_, rfl, ?_⟩; have HO167 := am (Kd.R_lower ho0 (below_size (w := w) i_)); replace BK162 := am (blk_below (g := gb162) (o := .cells #[.string a0_0, .slice A0_1 l0_1.length c0_1, .int .i64 a0_2] 24 (0, 0)) i_ hb); replace HB := am (below_step (w := w) i_ hb); (try clear hb); (try clear hb2); (try clear hk); (try clear hi); (try clear ho0); obtain ⟨Ao20, co20, eo20⟩ := Kd.R_slice HO167.out; subst eo20) | ((with_reducible refine gate_callee (f := 13) rfl ?_); refine gL (some 14) Try.func13 #[.agg #[.string t164, .slice Ao20 t165.length co20, .int .i64 t168]] rfl ?_; (with_reducible refine (spec_HistoryFault.calls k t164 _ _ t165 t168 t169 _ ?side1 ?side2 A8.out).mono ?_); (case side1 => repeat (first | exact (Kd.R_reads' HO167.out).2.2 | (with_reducible refine Kd.C_alloc ?_ _) | (with_reducible refine Kd.C_drewN ?_ _) | (with_reducible refine Kd.C_drew ?_))); (case side2 => exact (Kd.R_reads' HO167.out).2.1); rintro e w21 ⟨rfl, hb⟩; refine ⟨_, rfl, ?_⟩; replace HO167 := am (rB HO167.out i_ hb); replace BK162 := am (blk_below (g := gb162) (o := .cells #[.string a0_0, .slice A0_1 l0_1.length c0_1, .int .i64 a0_2] 24 (0, 0)) i_ hb); replace HB := am (below_step (w := w) i_ hb); (try clear hb); (try clear hb2); (try clear hk); (try clear hi); have hcz22 := bc3 BK162.out) | ((with_reducible refine gate_callee (f := 14) rfl ?_); refine gL (some 16) Try.func14 #[.agg #[.string a0_0, .slice A0_1 l0_1.length c0_1, .int .i64 a0_2]] rfl ?_; (with_reducible refine (laws_toHistory.calls k a0_0 _ _ l0_1 a0_2 t170 t171 t174 _ ?side1 ?side2 A9.out).mono ?_); (case side1 => exact Kd.C_below HR0_1.out i_); (case side2 => exact HC0_1.out); rintro e w23 ⟨v172, rfl, ho0, hb⟩; refine ⟨_, rfl, ?_⟩; have HO173 := am (Kd.R_lower (Kd.R_new' ho0 (Kd.R_lt (by (with_reducible repeat (first | apply Kd.R_alloc | apply Kd.R_drewN | apply Kd.R_drew)); exact HO167.out))) (below_size (w := w) i_)); replace HO167 := am (Kd.R_elder' (by (with_reducible repeat (first | apply Kd.R_alloc | apply Kd.R_drewN | apply Kd.R_drew)); exact HO167.out) (Kd.R_base ho0) hb); replace BK162 := am (blk_below (g := gb162) (o := .cells #[.string a0_0, .slice A0_1 l0_1.length c0_1, .int .i64 a0_2] 24 (0, 0)) i_ hb); replace HB := am (below_step (w := w) i_ hb); (try clear hb); (try clear hb2); (try clear hk); (try clear hi); (try clear ho0)) | ((with_reducible refine gate_dst (N := 5) rfl ?_); refine bX (N := 5) (cs := #[.string (⟨#[]⟩ : ByteArray), .slice none 0 0, .int .i64 0]) (t := 29) ?_; intro gb175 hg w24 hbox hb; have BK175 := am (hbox); have GW175 := am ((by rw [hg]; exact (below_size (w := w) i_) : w.heap.size ≤ gb175)); have GE175 := am ((by rw [hg]; exact (below_size (w := w) i_) : w.heap.size ≤ gb175)); have NB162_175 := am ((by rw [hg]; exact Nat.ne_of_lt (blk_lt (g := gb162) (o := .cells #[.string a0_0, .slice A0_1 l0_1.length c0_1, .int .i64 a0_2] 24 (0, 0)) i_) : gb162 ≠ gb175)); have NB175_162 := am ((by rw [hg]; exact Nat.ne_of_gt (blk_lt (g := gb162) (o := .cells #[.string a0_0, .slice A0_1 l0_1.length c0_1, .int .i64 a0_2] 24 (0, 0)) i_) : gb175 ≠ gb162)); replace HO167 := am (rB HO167.out i_ hb); replace HO173 := am (rB HO173.out i_ hb); replace BK162 := am (blk_below (g := gb162) (o := .cells #[.string a0_0, .slice A0_1 l0_1.length c0_1, .int .i64 a0_2] 24 (0, 0)) i_ hb); replace HB := am (below_step (w := w) i_ hb); clear hb hbox hg; have hnb25 := NB175_162.out; have hnc25 := NB162_175.out; have hcz26 := bc3 BK175.out; obtain ⟨Ao27, co27, eo27⟩ := Kd.R_slice HO173.out; subst eo27) | ((with_reducible refine gate_callee (f := 15) rfl ?_); refine gL (some 18) Try.func15 #[.agg #[.string t170, .slice Ao27 t171.length co27, .int .i64 t174]] rfl ?_; (with_reducible refine (impl_HistoryFault.calls k t170 _ _ t171 t174 t176 _ ?side1 ?side2 A10.out).mono ?_); (case side1 => refine (Kd.R_reads' (e := 68) (base := w.heap.size) (ok := fun k_ => (True ∧ some k_ ≠ (.slice Ao20 t165.length co20 : Value).ownBlock)) (n := t171.length) (c := co27) ?_).2.2; exact (by (with_reducible repeat (first | apply Kd.R_alloc | apply Kd.R_drewN | apply Kd.R_drew)); exact (Kd.R_mono (Kd.R_far (p := ⟨gb175, 2, none⟩) (Kd.R_far (p := ⟨gb175, 1, none⟩) (Kd.R_far (p := ⟨gb175, 0, none⟩) (Kd.R_types HO173.out BK175.out (by decide)) (fun _ hk => hk.2) (.string t170)) (fun _ hk => hk.2) (.slice Ao27 t171.length co27)) (fun _ hk => hk.2) (.int .i64 t174)) (fun _ h_ => h_.1)))); (case side2 => exact (Kd.R_reads' HO173.out).2.1); rintro e w28 ⟨rfl, hb⟩; refine ⟨_, rfl, ?_⟩; replace HO167 := am (Kd.R_below (by (with_reducible repeat (first | apply Kd.R_alloc | apply Kd.R_drewN | apply Kd.R_drew)); exact (Kd.R_mono (Kd.R_far (p := ⟨gb175, 2, none⟩) (Kd.R_far (p := ⟨gb175, 1, none⟩) (Kd.R_far (p := ⟨gb175, 0, none⟩) (Kd.R_types HO167.out BK175.out (by decide)) (fun _ hk => hk.2) (.string t170)) (fun _ hk => hk.2) (.slice Ao27 t171.length co27)) (fun _ hk => hk.2) (.int .i64 t174)) (fun _ h_ => h_.1))) hb); replace HO173 := am (Kd.R_below (by (with_reducible repeat (first | apply Kd.R_alloc | apply Kd.R_drewN | apply Kd.R_drew)); exact (Kd.R_mono (Kd.R_far (p := ⟨gb175, 2, none⟩) (Kd.R_far (p := ⟨gb175, 1, none⟩) (Kd.R_far (p := ⟨gb175, 0, none⟩) (Kd.R_types HO173.out BK175.out (by decide)) (fun _ hk => hk.2) (.string t170)) (fun _ hk => hk.2) (.slice Ao27 t171.length co27)) (fun _ hk => hk.2) (.int .i64 t174)) (fun _ h_ => h_.1))) hb); replace BK162 := am (blk_below (g := gb162) (o := .cells #[.string a0_0, .slice A0_1 l0_1.length c0_1, .int .i64 a0_2] 24 (0, 0)) i_ hb); replace BK175 := am (blk_below (g := gb175) (o := .cells #[.string t170, .slice Ao27 t171.length co27, .int .i64 t174] 29 (0, 0)) (by (with_reducible repeat (first | refine blk_drewN ?_ _ | refine blk_drew ?_ | refine blk_alloc ?_ _)); refine blk_put (cs := #[.string t170, .slice Ao27 t171.length co27, .int .i64 0]) ?_ 2 _ rfl; (with_reducible repeat (first | refine blk_drewN ?_ _ | refine blk_drew ?_ | refine blk_alloc ?_ _)); refine blk_put (cs := #[.string t170, .slice none 0 0, .int .i64 0]) ?_ 1 _ rfl; (with_reducible repeat (first | refine blk_drewN ?_ _ | refine blk_drew ?_ | refine blk_alloc ?_ _)); refine blk_put (cs := #[.string (⟨#[]⟩ : ByteArray), .slice none 0 0, .int .i64 0]) ?_ 0 _ rfl; (with_reducible repeat (first | refine blk_drewN ?_ _ | refine blk_drew ?_ | refine blk_alloc ?_ _)); exact BK175.out) hb); replace HB := am (below_step (w := w) i_ hb); (try clear hb); (try clear hb2); (try clear hk); ((try clear hi))))
        have n0_ := am (Kd.R_drew HO167.out)
        have n1_ := am (Kd.R_drew HO173.out)
        have n2_ := am (blk_drew BK162.out)
        have n3_ := am (blk_drew BK175.out)
        have n4_ := am (below_drew1 HB.out)
        clear HO167
        clear HO173
        clear BK162
        clear BK175
        clear HB
        have HO167 := n0_
        have HO173 := n1_
        have BK162 := n2_
        have BK175 := n3_
        have HB := n4_
        clear n0_ n1_ n2_ n3_ n4_
        refine start_ (n := 5) (S := fun w' => w'.cell? ⟨gb175, 0, none⟩ = some (.string t170) ∧ w'.cell? ⟨gb175, 1, none⟩ = some (.slice Ao27 t171.length co27) ∧ w'.cell? ⟨gb175, 2, none⟩ = some (.int .i64 t174) ∧ w'.cell? ⟨gb162, 0, none⟩ = some (.string a0_0) ∧ w'.cell? ⟨gb162, 1, none⟩ = some (.slice A0_1 l0_1.length c0_1) ∧ w'.cell? ⟨gb162, 2, none⟩ = some (.int .i64 a0_2)) (ds := []) #[false, false, false, false, false] (by kernel_rfl) rfl rfl ⟨(blk_cell BK175.out 0).trans rfl, (blk_cell BK175.out 1).trans rfl, (blk_cell BK175.out 2).trans rfl, (blk_cell BK162.out 0).trans rfl, (blk_cell BK162.out 1).trans rfl, (blk_cell BK162.out 2).trans rfl⟩ (fun hHeld => ?_)
        generalize w28.drew = w29 at HO167 HO173 BK162 BK175 HB hHeld ⊢
        refine take_ (i := 0) (N := some 22) (v := ?_) (a' := ?_) #[true, false, false, false, false] rfl rfl (by kernel_rfl) (fun _ _ _ h => h) (Or.inl ⟨by rfl, ?_⟩) hHeld ?_ ?_
        rotate_left
        · rintro w' ⟨s0, s1, s2, s3, s4, s5⟩
          go_simp
          with_reducible rfl
        rotate_left
        · simp only [Act.put, List.setIfInBounds_toArray, List.set_cons_zero, List.set_cons_succ, i64_w, i32_w]
          rfl
        refine take_ (i := 1) (N := some 23) (v := ?_) (a' := ?_) #[true, true, false, false, false] rfl rfl (by kernel_rfl) (fun _ _ _ h => h) (Or.inl ⟨by rfl, ?_⟩) hHeld ?_ ?_
        rotate_left
        · rintro w' ⟨s0, s1, s2, s3, s4, s5⟩
          go_simp
          with_reducible rfl
        rotate_left
        · simp only [Act.put, List.setIfInBounds_toArray, List.set_cons_zero, List.set_cons_succ, i64_w, i32_w]
          rfl
        refine one_ (i := 2) (N := some 24) #[true, true, true, false, false] rfl rfl (by kernel_rfl) (by decide) (fun K hK => ?_)
        refine goes_ Try.func14 (by kernel_rfl) rfl #[.agg #[.string a0_0, .slice A0_1 l0_1.length c0_1, .int .i64 a0_2]] (by rfl) rfl rfl (by (try simp only [List.map_toArray, List.map_cons, List.map_nil]); first | done | rfl | (simp only [List.length_drop, List.length_take]; rfl)) ?_
        with_reducible refine (laws_toHistory.calls k a0_0 _ _ l0_1 a0_2 t177 t178 t181 _ ?side1 ?side2 A12.out).mono ?_
        (case side1 => exact Kd.C_below HR0_1.out i_)
        (case side2 => exact HC0_1.out)
        rintro e w30 ⟨v179, rfl, ho0, hb⟩
        refine ⟨_, rfl, ?_⟩
        have n0_ := am (Kd.R_elder' (by (with_reducible repeat (first | apply Kd.R_alloc | apply Kd.R_drewN | apply Kd.R_drew)); exact HO167.out) (Kd.R_base ho0) hb)
        have n1_ := am (Kd.R_elder' (by (with_reducible repeat (first | apply Kd.R_alloc | apply Kd.R_drewN | apply Kd.R_drew)); exact HO173.out) (Kd.R_base ho0) hb)
        have n2_ := am (Kd.R_lower (Kd.R_new' (Kd.R_new' ho0 (Kd.R_lt (by (with_reducible repeat (first | apply Kd.R_alloc | apply Kd.R_drewN | apply Kd.R_drew)); exact HO167.out))) (Kd.R_lt (by (with_reducible repeat (first | apply Kd.R_alloc | apply Kd.R_drewN | apply Kd.R_drew)); exact HO173.out))) (below_size (w := w) i_))
        have n3_ := am (blk_below (g := gb162) (o := .cells #[.string a0_0, .slice A0_1 l0_1.length c0_1, .int .i64 a0_2] 24 (0, 0)) i_ hb)
        have n4_ := am (blk_below (g := gb175) (o := .cells #[.string t170, .slice Ao27 t171.length co27, .int .i64 t174] 29 (0, 0)) i_ hb)
        have n5_ := am (below_step (w := w) i_ hb)
        clear HO167
        clear HO173
        clear BK162
        clear BK175
        clear HB
        have HO167 := n0_
        have HO173 := n1_
        have HO180 := n2_
        have BK162 := n3_
        have BK175 := n4_
        have HB := n5_
        clear n0_ n1_ n2_ n3_ n4_ n5_
        ((try clear hb))
        ((try clear hb2))
        ((try clear hk))
        ((try clear hi))
        ((try clear ho0))
        obtain ⟨Ao31, co31, eo31⟩ := Kd.R_slice HO180.out
        (first | subst eo31 | (injection eo31 with f1_ f2_ f3_; have f4_ := f1_.symm; have f5_ := f3_.symm; clear f1_ f2_ f3_; subst f4_; subst f5_))
        refine hK.out _ _ ⟨(blk_cell BK175.out 0).trans rfl, (blk_cell BK175.out 1).trans rfl, (blk_cell BK175.out 2).trans rfl, (blk_cell BK162.out 0).trans rfl, (blk_cell BK162.out 1).trans rfl, (blk_cell BK162.out 2).trans rfl⟩ (fun hHeld => ?_)
        clear hK K
        refine norm_ (a' := ?_) ?_ ?_
        rotate_left
        · show Act.put _ (some 24) _ = _
          simp only [Act.put, List.setIfInBounds_toArray, List.set_cons_zero, List.set_cons_succ, i64_w, i32_w]
          rfl
        refine one_ (i := 3) (N := some 25) #[true, true, true, true, false] rfl rfl (by kernel_rfl) (by decide) (fun K hK => ?_)
        refine goes_ Try.func16 (by kernel_rfl) rfl #[.agg #[.string t170, .slice Ao27 t171.length co27, .int .i64 t174], .agg #[.string t177, .slice Ao31 t178.length co31, .int .i64 t181]] (by rfl) rfl rfl (by (try simp only [List.map_toArray, List.map_cons, List.map_nil]); first | done | rfl | (simp only [List.length_drop, List.length_take]; rfl)) ?_
        with_reducible refine (laws_eqHistory.calls k t170 _ _ t171 t174 t177 _ _ t178 t181 true _ ?side1 ?side2 ?side3 ?side4 A13.out).mono ?_
        (case side1 => repeat (first | exact (Kd.R_reads' HO173.out).2.2 | (with_reducible refine Kd.C_alloc ?_ _) | (with_reducible refine Kd.C_drewN ?_ _) | (with_reducible refine Kd.C_drew ?_)))
        (case side2 => exact (Kd.R_reads' HO173.out).2.1)
        (case side3 => repeat (first | exact (Kd.R_reads' HO180.out).2.2 | (with_reducible refine Kd.C_alloc ?_ _) | (with_reducible refine Kd.C_drewN ?_ _) | (with_reducible refine Kd.C_drew ?_)))
        (case side4 => exact (Kd.R_reads' HO180.out).2.1)
        rintro e w32 ⟨rfl, hb⟩
        refine ⟨_, rfl, ?_⟩
        have n0_ := am (rB HO167.out i_ hb)
        have n1_ := am (rB HO173.out i_ hb)
        have n2_ := am (rB HO180.out i_ hb)
        have n3_ := am (blk_below (g := gb162) (o := .cells #[.string a0_0, .slice A0_1 l0_1.length c0_1, .int .i64 a0_2] 24 (0, 0)) i_ hb)
        have n4_ := am (blk_below (g := gb175) (o := .cells #[.string t170, .slice Ao27 t171.length co27, .int .i64 t174] 29 (0, 0)) i_ hb)
        have n5_ := am (below_step (w := w) i_ hb)
        clear HO167
        clear HO173
        clear HO180
        clear BK162
        clear BK175
        clear HB
        have HO167 := n0_
        have HO173 := n1_
        have HO180 := n2_
        have BK162 := n3_
        have BK175 := n4_
        have HB := n5_
        clear n0_ n1_ n2_ n3_ n4_ n5_
        ((try clear hb))
        ((try clear hb2))
        ((try clear hk))
        ((try clear hi))
        refine hK.out _ _ ⟨(blk_cell BK175.out 0).trans rfl, (blk_cell BK175.out 1).trans rfl, (blk_cell BK175.out 2).trans rfl, (blk_cell BK162.out 0).trans rfl, (blk_cell BK162.out 1).trans rfl, (blk_cell BK162.out 2).trans rfl⟩ (fun hHeld => ?_)
        clear hK K
        refine norm_ (a' := ?_) ?_ ?_
        rotate_left
        · show Act.put _ (some 25) _ = _
          simp only [Act.put, List.setIfInBounds_toArray, List.set_cons_zero, List.set_cons_succ, i64_w, i32_w]
          rfl
        refine pure_ (i := 4) (N := some 26) (v := ?_) (a' := ?_) #[true, true, true, true, true] rfl rfl (by kernel_rfl) (fun _ _ _ h => h) (Or.inl ⟨by rfl, ?_⟩) ?_ ?_
        rotate_left
        · intro w'
          go_simp
          with_reducible rfl
        rotate_left
        · simp only [Act.put, List.setIfInBounds_toArray, List.set_cons_zero, List.set_cons_succ, i64_w, i32_w]
          rfl
        refine done_ (by kernel_rfl) ?_
        try go_wp2
        go_ret
        exact ⟨by first | rfl | (simp [errW_none, errW_some] <;> rfl) | (simp [*, errW_none, errW_some] <;> rfl), i_⟩
      · replace c14 := Bool.eq_false_iff.mpr c14
        subst c14
        have H1 : (none) = some r := by rw [if_neg (show ¬ (false = true) by decide)] at H; exact H
        clear H
        have H := H1
        clear H1
        exact absurd H (by simp)
    · rw [if_neg c11] at H
      exact absurd H (by simp)

/-! ### spec_TextAt: function 17 -/
def spec_TextAt.f (k : Nat) (a0_0 : ByteArray) (l0_1 : List (S68)) (a0_2 : Int) (a1 : Int) : Option (ByteArray) := (spec_HistoryFault.f k a0_0 l0_1 a0_2).bind fun t184 => (if t184 = 0 then (if a1 < 0 then (some (⟨#[]⟩ : ByteArray)) else (if a1 > (l0_1.length : Int) then (some (⟨#[]⟩ : ByteArray)) else ((spec_l21Text.f k a0_0 l0_1 a0_2 a1).bind fun bt185 => (some bt185.1)))) else (some (⟨#[]⟩ : ByteArray)))
theorem spec_TextAt.mono : ∀ a0 a1 a2 a3 k, LeO (spec_TextAt.f k a0 a1 a2 a3) (spec_TextAt.f (k + 1) a0 a1 a2 a3) := by
  intro a0 a1 a2 a3 k
  unfold spec_TextAt.f
  repeat' first
      | (with_reducible exact spec_HistoryFault.mono _ _ _ _)
      | (with_reducible exact spec_l21Text.mono _ _ _ _ _)
      | (with_reducible exact LeO.refl _)
      | (with_reducible exact LeO.none _)
      | (with_reducible refine LeO.ite ?_ ?_)
      | (with_reducible refine LeO.bind ?_ (fun _ => ?_))
      | exact spec_HistoryFault.mono _ _ _ _
      | exact spec_l21Text.mono _ _ _ _ _
      | exact LeO.none _
      | refine LeO.ite ?_ ?_
      | refine LeO.bind ?_ (fun _ => ?_)
set_option maxHeartbeats 8000000 in
set_option maxRecDepth 100000 in
theorem spec_TextAt.calls (k : Nat) (a0_0 : ByteArray) (A0_1 : Option Addr) (c0_1 : Nat) (l0_1 : List (S68)) (a0_2 : Int) (a1 : Int) (r : ByteArray) (w : World) (hr0_1 : Kd.C k68 w A0_1 l0_1.length l0_1) (hc0_1 : l0_1.length ≤ c0_1) (h : spec_TextAt.f k a0_0 l0_1 a0_2 a1 = some r) :
    Calls Try.prog 17 #[.agg #[.string a0_0, .slice A0_1 l0_1.length c0_1, .int .i64 a0_2], .int .i64 a1] w fun e w' => e = .returned (.string r) ∧ Below w.heap.size w w' := by
  have hu29 := Try.underlying29
  have HR0_1 := am hr0_1
  have HC0_1 := am hc0_1
  clear hr0_1 hc0_1
  have HB := am (Below.refl w.heap.size w)
  have H : ((spec_HistoryFault.f k a0_0 l0_1 a0_2).bind fun t184 => (if t184 = 0 then (if a1 < 0 then (some (⟨#[]⟩ : ByteArray)) else (if a1 > (l0_1.length : Int) then (some (⟨#[]⟩ : ByteArray)) else ((spec_l21Text.f k a0_0 l0_1 a0_2 a1).bind fun bt185 => (some bt185.1)))) else (some (⟨#[]⟩ : ByteArray)))) = some r := h
  clear h
  replace H := Option.bind_eq_some_iff.mp H
  obtain ⟨t184, A30, H⟩ := H
  replace H : (if t184 = 0 then (if a1 < 0 then (some (⟨#[]⟩ : ByteArray)) else (if a1 > (l0_1.length : Int) then (some (⟨#[]⟩ : ByteArray)) else ((spec_l21Text.f k a0_0 l0_1 a0_2 a1).bind fun bt185 => (some bt185.1)))) else (some (⟨#[]⟩ : ByteArray))) = some r := H
  have A3 := am A30
  clear A30
  by_cases c4 : t184 = 0
  · rw [if_pos c4] at H
    have c4b0 : (t184 == 0) = true := beq_iff_eq.mpr c4
    have c4b1 : (t184 != 0) = false := bne_eq_false_iff_eq.mpr c4
    clear c4
    by_cases c5 : a1 < 0
    · rw [if_pos c5] at H
      have c5b0 : decide (a1 < 0) = true := decide_eq_true c5
      clear c5
      obtain rfl := Option.some.inj H
      go_enter Try.func17, Try.ntmps17
      go_wp2_with (first | ((with_reducible refine gate_dst (N := 2) rfl ?_); (try (refine gate_guard (by rfl) ?_; dsimp only)); refine bX (N := 2) (cs := #[.string a0_0, .slice A0_1 l0_1.length c0_1, .int .i64 a0_2]) (t := 29) ?_; intro gb183 hg w6 hbox hb; have BK183 := am (hbox); have GW183 := am ((by rw [hg]; exact (below_size (w := w) i_) : w.heap.size ≤ gb183)); have GE183 := am ((by rw [hg]; exact (below_size (w := w) i_) : w.heap.size ≤ gb183)); replace HB := am (below_step (w := w) i_ hb); clear hb hbox hg; have hcz7 := bc3 BK183.out) | ((with_reducible refine gate_callee (f := 13) rfl ?_); refine gL (some 8) Try.func13 #[.agg #[.string a0_0, .slice A0_1 l0_1.length c0_1, .int .i64 a0_2]] rfl ?_; (with_reducible refine (spec_HistoryFault.calls k a0_0 _ _ l0_1 a0_2 t184 _ ?side1 ?side2 A3.out).mono ?_); (case side1 => exact Kd.C_below HR0_1.out i_); (case side2 => exact HC0_1.out); rintro e w8 ⟨rfl, hb⟩; refine ⟨_, rfl, ?_⟩; replace BK183 := am (blk_below (g := gb183) (o := .cells #[.string a0_0, .slice A0_1 l0_1.length c0_1, .int .i64 a0_2] 29 (0, 0)) i_ hb); replace HB := am (below_step (w := w) i_ hb); (try clear hb); (try clear hb2); (try clear hk); ((try clear hi))))
      go_ret
      exact ⟨by first | rfl | (simp [errW_none, errW_some] <;> rfl) | (simp [*, errW_none, errW_some] <;> rfl), i_⟩
    · rw [if_neg c5] at H
      have c5b0 : decide (a1 < 0) = false := decide_eq_false c5
      clear c5
      by_cases c9 : a1 > (l0_1.length : Int)
      · rw [if_pos c9] at H
        have c9b0 : decide ((l0_1.length : Int) < a1) = true := decide_eq_true c9
        clear c9
        obtain rfl := Option.some.inj H
        go_enter Try.func17, Try.ntmps17
        go_wp2_with (first | ((with_reducible refine gate_dst (N := 2) rfl ?_); (try (refine gate_guard (by rfl) ?_; dsimp only)); refine bX (N := 2) (cs := #[.string a0_0, .slice A0_1 l0_1.length c0_1, .int .i64 a0_2]) (t := 29) ?_; intro gb183 hg w10 hbox hb; have BK183 := am (hbox); have GW183 := am ((by rw [hg]; exact (below_size (w := w) i_) : w.heap.size ≤ gb183)); have GE183 := am ((by rw [hg]; exact (below_size (w := w) i_) : w.heap.size ≤ gb183)); replace HB := am (below_step (w := w) i_ hb); clear hb hbox hg; have hcz11 := bc3 BK183.out) | ((with_reducible refine gate_callee (f := 13) rfl ?_); refine gL (some 8) Try.func13 #[.agg #[.string a0_0, .slice A0_1 l0_1.length c0_1, .int .i64 a0_2]] rfl ?_; (with_reducible refine (spec_HistoryFault.calls k a0_0 _ _ l0_1 a0_2 t184 _ ?side1 ?side2 A3.out).mono ?_); (case side1 => exact Kd.C_below HR0_1.out i_); (case side2 => exact HC0_1.out); rintro e w12 ⟨rfl, hb⟩; refine ⟨_, rfl, ?_⟩; replace BK183 := am (blk_below (g := gb183) (o := .cells #[.string a0_0, .slice A0_1 l0_1.length c0_1, .int .i64 a0_2] 29 (0, 0)) i_ hb); replace HB := am (below_step (w := w) i_ hb); (try clear hb); (try clear hb2); (try clear hk); (try clear hi); have hcz13 := bc3 BK183.out))
        go_ret
        exact ⟨by first | rfl | (simp [errW_none, errW_some] <;> rfl) | (simp [*, errW_none, errW_some] <;> rfl), i_⟩
      · rw [if_neg c9] at H
        have c9b0 : decide ((l0_1.length : Int) < a1) = false := decide_eq_false c9
        clear c9
        replace H := Option.bind_eq_some_iff.mp H
        obtain ⟨⟨t185, t186⟩, A140, H⟩ := H
        replace H : (some t185) = some r := H
        have A14 := am A140
        clear A140
        obtain rfl := Option.some.inj H
        go_enter Try.func17, Try.ntmps17
        go_wp2_with (first | ((with_reducible refine gate_dst (N := 2) rfl ?_); (try (refine gate_guard (by rfl) ?_; dsimp only)); refine bX (N := 2) (cs := #[.string a0_0, .slice A0_1 l0_1.length c0_1, .int .i64 a0_2]) (t := 29) ?_; intro gb183 hg w15 hbox hb; have BK183 := am (hbox); have GW183 := am ((by rw [hg]; exact (below_size (w := w) i_) : w.heap.size ≤ gb183)); have GE183 := am ((by rw [hg]; exact (below_size (w := w) i_) : w.heap.size ≤ gb183)); replace HB := am (below_step (w := w) i_ hb); clear hb hbox hg; have hcz16 := bc3 BK183.out) | ((with_reducible refine gate_callee (f := 13) rfl ?_); refine gL (some 8) Try.func13 #[.agg #[.string a0_0, .slice A0_1 l0_1.length c0_1, .int .i64 a0_2]] rfl ?_; (with_reducible refine (spec_HistoryFault.calls k a0_0 _ _ l0_1 a0_2 t184 _ ?side1 ?side2 A3.out).mono ?_); (case side1 => exact Kd.C_below HR0_1.out i_); (case side2 => exact HC0_1.out); rintro e w17 ⟨rfl, hb⟩; refine ⟨_, rfl, ?_⟩; replace BK183 := am (blk_below (g := gb183) (o := .cells #[.string a0_0, .slice A0_1 l0_1.length c0_1, .int .i64 a0_2] 29 (0, 0)) i_ hb); replace HB := am (below_step (w := w) i_ hb); (try clear hb); (try clear hb2); (try clear hk); (try clear hi); have hcz18 := bc3 BK183.out) | ((with_reducible refine gate_callee (f := 47) rfl ?_); refine gL (some 24) Try.func47 #[.agg #[.string a0_0, .slice A0_1 l0_1.length c0_1, .int .i64 a0_2], .int .i64 a1] rfl ?_; (with_reducible refine (spec_l21Text.calls k a0_0 _ _ l0_1 a0_2 a1 t185 t186 _ ?side1 ?side2 A14.out).mono ?_); (case side1 => exact Kd.C_below HR0_1.out i_); (case side2 => exact HC0_1.out); rintro e w19 ⟨rfl, hb⟩; refine ⟨_, rfl, ?_⟩; replace BK183 := am (blk_below (g := gb183) (o := .cells #[.string a0_0, .slice A0_1 l0_1.length c0_1, .int .i64 a0_2] 29 (0, 0)) i_ hb); replace HB := am (below_step (w := w) i_ hb); (try clear hb); (try clear hb2); (try clear hk); ((try clear hi))))
        go_ret
        exact ⟨by first | rfl | (simp [errW_none, errW_some] <;> rfl) | (simp [*, errW_none, errW_some] <;> rfl), i_⟩
  · rw [if_neg c4] at H
    have c4b0 : (t184 == 0) = false := beq_eq_false_iff_ne.mpr c4
    have c4b1 : (t184 != 0) = true := bne_iff_ne.mpr c4
    obtain rfl := Option.some.inj H
    go_enter Try.func17, Try.ntmps17
    go_wp2_with (first | ((with_reducible refine gate_dst (N := 2) rfl ?_); (try (refine gate_guard (by rfl) ?_; dsimp only)); refine bX (N := 2) (cs := #[.string a0_0, .slice A0_1 l0_1.length c0_1, .int .i64 a0_2]) (t := 29) ?_; intro gb183 hg w20 hbox hb; have BK183 := am (hbox); have GW183 := am ((by rw [hg]; exact (below_size (w := w) i_) : w.heap.size ≤ gb183)); have GE183 := am ((by rw [hg]; exact (below_size (w := w) i_) : w.heap.size ≤ gb183)); replace HB := am (below_step (w := w) i_ hb); clear hb hbox hg; have hcz21 := bc3 BK183.out) | ((with_reducible refine gate_callee (f := 13) rfl ?_); refine gL (some 8) Try.func13 #[.agg #[.string a0_0, .slice A0_1 l0_1.length c0_1, .int .i64 a0_2]] rfl ?_; (with_reducible refine (spec_HistoryFault.calls k a0_0 _ _ l0_1 a0_2 t184 _ ?side1 ?side2 A3.out).mono ?_); (case side1 => exact Kd.C_below HR0_1.out i_); (case side2 => exact HC0_1.out); rintro e w22 ⟨rfl, hb⟩; refine ⟨_, rfl, ?_⟩; replace BK183 := am (blk_below (g := gb183) (o := .cells #[.string a0_0, .slice A0_1 l0_1.length c0_1, .int .i64 a0_2] 29 (0, 0)) i_ hb); replace HB := am (below_step (w := w) i_ hb); (try clear hb); (try clear hb2); (try clear hk); ((try clear hi))))
    go_ret
    exact ⟨by first | rfl | (simp [errW_none, errW_some] <;> rfl) | (simp [*, errW_none, errW_some] <;> rfl), i_⟩

/-! ### impl_TextAt: function 18 -/
def impl_TextAt.f (k : Nat) (a0_0 : ByteArray) (l0_1 : List (S68)) (a0_2 : Int) (a1 : Int) : Option (ByteArray) := (impl_texts.f k a0_0 l0_1 a0_2).bind fun t188 => (if a1 < 0 then (some (⟨#[]⟩ : ByteArray)) else (if a1 ≥ (t188.length : Int) then (some (⟨#[]⟩ : ByteArray)) else (if 0 ≤ a1 then (if a1 < (t188.length : Int) then (some (rdOf ByteArray.empty t188 a1)) else (none)) else (none))))
theorem impl_TextAt.mono : ∀ a0 a1 a2 a3 k, LeO (impl_TextAt.f k a0 a1 a2 a3) (impl_TextAt.f (k + 1) a0 a1 a2 a3) := by
  intro a0 a1 a2 a3 k
  unfold impl_TextAt.f
  repeat' first
      | (with_reducible exact impl_texts.mono _ _ _ _)
      | (with_reducible exact LeO.refl _)
      | (with_reducible exact LeO.none _)
      | (with_reducible refine LeO.ite ?_ ?_)
      | (with_reducible refine LeO.bind ?_ (fun _ => ?_))
      | exact impl_texts.mono _ _ _ _
      | exact LeO.none _
      | refine LeO.ite ?_ ?_
      | refine LeO.bind ?_ (fun _ => ?_)
set_option maxHeartbeats 8000000 in
set_option maxRecDepth 100000 in
theorem impl_TextAt.calls (k : Nat) (a0_0 : ByteArray) (A0_1 : Option Addr) (c0_1 : Nat) (l0_1 : List (S68)) (a0_2 : Int) (a1 : Int) (r : ByteArray) (w : World) (hr0_1 : Kd.C k68 w A0_1 l0_1.length l0_1) (hc0_1 : l0_1.length ≤ c0_1) (h : impl_TextAt.f k a0_0 l0_1 a0_2 a1 = some r) :
    Calls Try.prog 18 #[.agg #[.string a0_0, .slice A0_1 l0_1.length c0_1, .int .i64 a0_2], .int .i64 a1] w fun e w' => e = .returned (.string r) ∧ Below w.heap.size w w' := by
  have hu29 := Try.underlying29
  have HR0_1 := am hr0_1
  have HC0_1 := am hc0_1
  clear hr0_1 hc0_1
  have HB := am (Below.refl w.heap.size w)
  have H : ((impl_texts.f k a0_0 l0_1 a0_2).bind fun t188 => (if a1 < 0 then (some (⟨#[]⟩ : ByteArray)) else (if a1 ≥ (t188.length : Int) then (some (⟨#[]⟩ : ByteArray)) else (if 0 ≤ a1 then (if a1 < (t188.length : Int) then (some (rdOf ByteArray.empty t188 a1)) else (none)) else (none))))) = some r := h
  clear h
  replace H := Option.bind_eq_some_iff.mp H
  obtain ⟨t188, A30, H⟩ := H
  replace H : (if a1 < 0 then (some (⟨#[]⟩ : ByteArray)) else (if a1 ≥ (t188.length : Int) then (some (⟨#[]⟩ : ByteArray)) else (if 0 ≤ a1 then (if a1 < (t188.length : Int) then (some (rdOf ByteArray.empty t188 a1)) else (none)) else (none)))) = some r := H
  have A3 := am A30
  clear A30
  by_cases c4 : a1 < 0
  · rw [if_pos c4] at H
    have c4b0 : decide (a1 < 0) = true := decide_eq_true c4
    clear c4
    obtain rfl := Option.some.inj H
    go_enter Try.func18, Try.ntmps18
    go_wp2_with (first | ((with_reducible refine gate_dst (N := 2) rfl ?_); (try (refine gate_guard (by rfl) ?_; dsimp only)); refine bX (N := 2) (cs := #[.string a0_0, .slice A0_1 l0_1.length c0_1, .int .i64 a0_2]) (t := 29) ?_; intro gb187 hg w5 hbox hb; have BK187 := am (hbox); have GW187 := am ((by rw [hg]; exact (below_size (w := w) i_) : w.heap.size ≤ gb187)); have GE187 := am ((by rw [hg]; exact (below_size (w := w) i_) : w.heap.size ≤ gb187)); replace HB := am (below_step (w := w) i_ hb); clear hb hbox hg; have hcz6 := bc3 BK187.out) | ((with_reducible refine gate_callee (f := 49) rfl ?_); refine gL (some 7) Try.func49 #[.agg #[.string a0_0, .slice A0_1 l0_1.length c0_1, .int .i64 a0_2]] rfl ?_; (with_reducible refine (impl_texts.calls k a0_0 _ _ l0_1 a0_2 t188 _ ?side1 ?side2 A3.out).mono ?_); (case side1 => exact Kd.C_below HR0_1.out i_); (case side2 => exact HC0_1.out); rintro e w7 ⟨v189, rfl, ⟨ho0, hnq0⟩, hb⟩; refine ⟨_, rfl, ?_⟩; have NQv189 := am hnq0; clear hnq0; have HO190 := am (Kd.R_lower ho0 (below_size (w := w) i_)); replace BK187 := am (blk_below (g := gb187) (o := .cells #[.string a0_0, .slice A0_1 l0_1.length c0_1, .int .i64 a0_2] 29 (0, 0)) i_ hb); replace HB := am (below_step (w := w) i_ hb); (try clear hb); (try clear hb2); (try clear hk); (try clear hi); ((try clear ho0))))
    go_ret
    exact ⟨by first | rfl | (simp [errW_none, errW_some] <;> rfl) | (simp [*, errW_none, errW_some] <;> rfl), i_⟩
  · rw [if_neg c4] at H
    have c4b0 : decide (a1 < 0) = false := decide_eq_false c4
    clear c4
    by_cases c8 : a1 ≥ (t188.length : Int)
    · rw [if_pos c8] at H
      have c8b0 : decide ((t188.length : Int) ≤ a1) = true := decide_eq_true c8
      clear c8
      obtain rfl := Option.some.inj H
      go_enter Try.func18, Try.ntmps18
      go_wp2_with (first | ((with_reducible refine gate_dst (N := 2) rfl ?_); (try (refine gate_guard (by rfl) ?_; dsimp only)); refine bX (N := 2) (cs := #[.string a0_0, .slice A0_1 l0_1.length c0_1, .int .i64 a0_2]) (t := 29) ?_; intro gb187 hg w9 hbox hb; have BK187 := am (hbox); have GW187 := am ((by rw [hg]; exact (below_size (w := w) i_) : w.heap.size ≤ gb187)); have GE187 := am ((by rw [hg]; exact (below_size (w := w) i_) : w.heap.size ≤ gb187)); replace HB := am (below_step (w := w) i_ hb); clear hb hbox hg; have hcz10 := bc3 BK187.out) | ((with_reducible refine gate_callee (f := 49) rfl ?_); refine gL (some 7) Try.func49 #[.agg #[.string a0_0, .slice A0_1 l0_1.length c0_1, .int .i64 a0_2]] rfl ?_; (with_reducible refine (impl_texts.calls k a0_0 _ _ l0_1 a0_2 t188 _ ?side1 ?side2 A3.out).mono ?_); (case side1 => exact Kd.C_below HR0_1.out i_); (case side2 => exact HC0_1.out); rintro e w11 ⟨v189, rfl, ⟨ho0, hnq0⟩, hb⟩; refine ⟨_, rfl, ?_⟩; have NQv189 := am hnq0; clear hnq0; have HO190 := am (Kd.R_lower ho0 (below_size (w := w) i_)); replace BK187 := am (blk_below (g := gb187) (o := .cells #[.string a0_0, .slice A0_1 l0_1.length c0_1, .int .i64 a0_2] 29 (0, 0)) i_ hb); replace HB := am (below_step (w := w) i_ hb); (try clear hb); (try clear hb2); (try clear hk); (try clear hi); (try clear ho0); obtain ⟨Ao12, co12, eo12⟩ := Kd.R_slice HO190.out; subst eo12))
      go_ret
      exact ⟨by first | rfl | (simp [errW_none, errW_some] <;> rfl) | (simp [*, errW_none, errW_some] <;> rfl), i_⟩
    · rw [if_neg c8] at H
      have c8b0 : decide ((t188.length : Int) ≤ a1) = false := decide_eq_false c8
      clear c8
      by_cases c13 : 0 ≤ a1
      · rw [if_pos c13] at H
        have c13b0 : decide (0 ≤ a1) = true := decide_eq_true c13
        clear c13
        by_cases c14 : a1 < (t188.length : Int)
        · rw [if_pos c14] at H
          have c14b0 : decide (a1 < (t188.length : Int)) = true := decide_eq_true c14
          clear c14
          obtain rfl := Option.some.inj H
          go_enter Try.func18, Try.ntmps18
          go_wp2_with (first | ((with_reducible refine gate_dst (N := 2) rfl ?_); (try (refine gate_guard (by rfl) ?_; dsimp only)); refine bX (N := 2) (cs := #[.string a0_0, .slice A0_1 l0_1.length c0_1, .int .i64 a0_2]) (t := 29) ?_; intro gb187 hg w15 hbox hb; have BK187 := am (hbox); have GW187 := am ((by rw [hg]; exact (below_size (w := w) i_) : w.heap.size ≤ gb187)); have GE187 := am ((by rw [hg]; exact (below_size (w := w) i_) : w.heap.size ≤ gb187)); replace HB := am (below_step (w := w) i_ hb); clear hb hbox hg; have hcz16 := bc3 BK187.out) | ((with_reducible refine gate_callee (f := 49) rfl ?_); refine gL (some 7) Try.func49 #[.agg #[.string a0_0, .slice A0_1 l0_1.length c0_1, .int .i64 a0_2]] rfl ?_; (with_reducible refine (impl_texts.calls k a0_0 _ _ l0_1 a0_2 t188 _ ?side1 ?side2 A3.out).mono ?_); (case side1 => exact Kd.C_below HR0_1.out i_); (case side2 => exact HC0_1.out); rintro e w17 ⟨v189, rfl, ⟨ho0, hnq0⟩, hb⟩; refine ⟨_, rfl, ?_⟩; have NQv189 := am hnq0; clear hnq0; have HO190 := am (Kd.R_lower ho0 (below_size (w := w) i_)); replace BK187 := am (blk_below (g := gb187) (o := .cells #[.string a0_0, .slice A0_1 l0_1.length c0_1, .int .i64 a0_2] 29 (0, 0)) i_ hb); replace HB := am (below_step (w := w) i_ hb); (try clear hb); (try clear hb2); (try clear hk); (try clear hi); (try clear ho0); obtain ⟨Ao18, co18, eo18⟩ := Kd.R_slice HO190.out; subst eo18; have p191 : 0 ≤ (a1 : Int) := of_decide_eq_true (by first | (with_reducible assumption) | assumption); have q191 : a1 < (t188.length : Int) := of_decide_eq_true (by first | (with_reducible assumption) | assumption); obtain ⟨ad191, e191, hx191_0⟩ := Kd.at_string (Kd.R_reads' HO190.out).2.2 a1 p191 q191; cases e191; replace p191 := eq_true p191; replace q191 := eq_true q191))
          go_ret
          exact ⟨by first | rfl | (simp [errW_none, errW_some] <;> rfl) | (simp [*, errW_none, errW_some] <;> rfl), i_⟩
        · rw [if_neg c14] at H
          exact absurd H (by simp)
      · rw [if_neg c13] at H
        exact absurd H (by simp)

end Go.Proofs.Ytopbiepiceajnaa.Q
