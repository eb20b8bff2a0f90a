-- Written by xprint.py (wip/ of this repository): one Lean function and its proof for each Go function.
import Derived.Test.YtopbiepiceajnaaQx0
import Derived.Test.YtopbiepiceajnaaQx2
namespace Go.Proofs.Ytopbiepiceajnaa.Q
open Go.RowKit Go.Proofs.YtopbiepiceajnaaW.PrintWords Go.Proofs.YtopbiepiceajnaaW.PrintLast Go.Proofs.YtopbiepiceajnaaW.PrintMore
attribute [local go_sem] max2_int min2_int max_two min_two max_three min_three max_four min_four   -- for this text's walks alone
set_option linter.unusedVariables false
set_option linter.unusedSimpArgs false

/-! ### impl_texts: function 49 -/
mutual
def impl_texts.j0 : Nat → Bool → ByteArray → List (S68) → Int → Option (List ByteArray)
  | 0, _, _, _, _ => none
  | k + 1, x28, x138000, x138001, x138002 => if x28 = true then (some ([] : List ByteArray)) else (impl_texts.l0 k (([x138000] : List ByteArray)) x138000 x138001 (x138001.length : Int) 0)
def impl_texts.l0 : Nat → List ByteArray → ByteArray → List (S68) → Int → Int → Option (List ByteArray)
  | 0, _, _, _, _, _ => none
  | k + 1, x3, x4, x35, x36, x37 => if x37 < x36 then (if 0 ≤ x37 then (if x37 < (x35.length : Int) then (if ((rd_T68 x35 x37).f0) < 0 then (impl_texts.j2 k x3 x4 x35 x36 x37 true ((rd_T68 x35 x37).f0) ((rd_T68 x35 x37).f1) ((rd_T68 x35 x37).f2) ((rd_T68 x35 x37).f3)) else (if ((rd_T68 x35 x37).f0) > (x4.size : Int) then (impl_texts.j2 k x3 x4 x35 x36 x37 true ((rd_T68 x35 x37).f0) ((rd_T68 x35 x37).f1) ((rd_T68 x35 x37).f2) ((rd_T68 x35 x37).f3)) else (if 0 ≤ ((rd_T68 x35 x37).f0) then (if ((rd_T68 x35 x37).f0) ≤ (x4.size : Int) then ((strings_HasPrefix.f (x4.extract (((rd_T68 x35 x37).f0) : Int).toNat x4.size) ((rd_T68 x35 x37).f1)).bind fun t144 => (if t144 = true then (if ((rd_T68 x35 x37).f1).toList = ((rd_T68 x35 x37).f2).toList then (impl_texts.j2 k x3 x4 x35 x36 x37 true ((rd_T68 x35 x37).f0) ((rd_T68 x35 x37).f1) ((rd_T68 x35 x37).f2) ((rd_T68 x35 x37).f3)) else (if ((rd_T68 x35 x37).f3) < 0 then (impl_texts.j2 k x3 x4 x35 x36 x37 true ((rd_T68 x35 x37).f0) ((rd_T68 x35 x37).f1) ((rd_T68 x35 x37).f2) ((rd_T68 x35 x37).f3)) else (impl_texts.j2 k x3 x4 x35 x36 x37 (decide (((rd_T68 x35 x37).f3) > 1000000)) ((rd_T68 x35 x37).f0) ((rd_T68 x35 x37).f1) ((rd_T68 x35 x37).f2) ((rd_T68 x35 x37).f3)))) else (impl_texts.j2 k x3 x4 x35 x36 x37 true ((rd_T68 x35 x37).f0) ((rd_T68 x35 x37).f1) ((rd_T68 x35 x37).f2) ((rd_T68 x35 x37).f3)))) else (none)) else (none)))) else (none)) else (none)) else (if 0 < x3.length then (some x3) else (none))
def impl_texts.j2 : Nat → List ByteArray → ByteArray → List (S68) → Int → Int → Bool → Int → ByteArray → ByteArray → Int → Option (List ByteArray)
  | 0, _, _, _, _, _, _, _, _, _, _ => none
  | k + 1, x3, x4, x35, x36, x37, x77, x144000, x144001, x144002, x144003 => if x77 = true then (some ([] : List ByteArray)) else ((impl_do.f x4 x144000 x144001 x144002 x144003).bind fun t145 => ((impl_long.f t145).bind fun t146 => (if t146 = true then (some ([] : List ByteArray)) else (if x3.length < 8796093022208 then (impl_texts.l0 k (x3 ++ [t145]) t145 x35 x36 (wrap64 (x37 + 1))) else (none)))))
end
def impl_texts.f (k : Nat) (a0_0 : ByteArray) (l0_1 : List (S68)) (a0_2 : Int) : Option (List ByteArray) := (impl_long.f a0_0).bind fun t138 => (if t138 = true then (impl_texts.j0 k true a0_0 l0_1 a0_2) else (if (l0_1.length : Int) > 300 then (impl_texts.j0 k true a0_0 l0_1 a0_2) else (if a0_2 < 0 then (impl_texts.j0 k true a0_0 l0_1 a0_2) else (impl_texts.j0 k (decide (a0_2 > (l0_1.length : Int))) a0_0 l0_1 a0_2))))
theorem impl_texts.mono_l : ∀ k, (∀ y0 y1 y2 y3, LeO (impl_texts.j0 k y0 y1 y2 y3) (impl_texts.j0 (k + 1) y0 y1 y2 y3)) ∧ (∀ y0 y1 y2 y3 y4, LeO (impl_texts.l0 k y0 y1 y2 y3 y4) (impl_texts.l0 (k + 1) y0 y1 y2 y3 y4)) ∧ (∀ y0 y1 y2 y3 y4 y5 y6 y7 y8 y9, LeO (impl_texts.j2 k y0 y1 y2 y3 y4 y5 y6 y7 y8 y9) (impl_texts.j2 (k + 1) y0 y1 y2 y3 y4 y5 y6 y7 y8 y9))
  | 0 => ⟨fun _ _ _ _ r h => by simp [impl_texts.j0] at h, fun _ _ _ _ _ r h => by simp [impl_texts.l0] at h, fun _ _ _ _ _ _ _ _ _ _ r h => by simp [impl_texts.j2] at h⟩
  | k + 1 => by
    obtain ⟨ih0, ih1, ih2⟩ := impl_texts.mono_l k
    refine ⟨?_, ?_, ?_⟩
    · intro y0 y1 y2 y3
      unfold impl_texts.j0
      repeat' first
      | (with_reducible exact ih0 _ _ _ _)
      | (with_reducible exact ih1 _ _ _ _ _)
      | (with_reducible exact ih2 _ _ _ _ _ _ _ _ _ _)
      | (with_reducible exact LeO.refl _)
      | (with_reducible exact LeO.none _)
      | (with_reducible refine LeO.ite ?_ ?_)
      | (with_reducible refine LeO.bind ?_ (fun _ => ?_))
      | exact ih0 _ _ _ _
      | exact ih1 _ _ _ _ _
      | exact ih2 _ _ _ _ _ _ _ _ _ _
      | exact LeO.none _
      | refine LeO.ite ?_ ?_
      | refine LeO.bind ?_ (fun _ => ?_)
    · intro y0 y1 y2 y3 y4
      unfold impl_texts.l0
      repeat' first
      | (with_reducible exact ih0 _ _ _ _)
      | (with_reducible exact ih1 _ _ _ _ _)
      | (with_reducible exact ih2 _ _ _ _ _ _ _ _ _ _)
      | (with_reducible exact LeO.refl _)
      | (with_reducible exact LeO.none _)
      | (with_reducible refine LeO.ite ?_ ?_)
      | (with_reducible refine LeO.bind ?_ (fun _ => ?_))
      | exact ih0 _ _ _ _
      | exact ih1 _ _ _ _ _
      | exact ih2 _ _ _ _ _ _ _ _ _ _
      | exact LeO.none _
      | refine LeO.ite ?_ ?_
      | refine LeO.bind ?_ (fun _ => ?_)
    · intro y0 y1 y2 y3 y4 y5 y6 y7 y8 y9
      unfold impl_texts.j2
      repeat' first
      | (with_reducible exact ih0 _ _ _ _)
      | (with_reducible exact ih1 _ _ _ _ _)
      | (with_reducible exact ih2 _ _ _ _ _ _ _ _ _ _)
      | (with_reducible exact LeO.refl _)
      | (with_reducible exact LeO.none _)
      | (with_reducible refine LeO.ite ?_ ?_)
      | (with_reducible refine LeO.bind ?_ (fun _ => ?_))
      | exact ih0 _ _ _ _
      | exact ih1 _ _ _ _ _
      | exact ih2 _ _ _ _ _ _ _ _ _ _
      | exact LeO.none _
      | refine LeO.ite ?_ ?_
      | refine LeO.bind ?_ (fun _ => ?_)
theorem impl_texts.mono : ∀ a0 a1 a2 k, LeO (impl_texts.f k a0 a1 a2) (impl_texts.f (k + 1) a0 a1 a2) := by
  intro a0 a1 a2 k
  obtain ⟨ih0, ih1, ih2⟩ := impl_texts.mono_l k
  unfold impl_texts.f
  repeat' first
      | (with_reducible exact ih0 _ _ _ _)
      | (with_reducible exact ih1 _ _ _ _ _)
      | (with_reducible exact ih2 _ _ _ _ _ _ _ _ _ _)
      | (with_reducible exact LeO.refl _)
      | (with_reducible exact LeO.none _)
      | (with_reducible refine LeO.ite ?_ ?_)
      | (with_reducible refine LeO.bind ?_ (fun _ => ?_))
      | exact ih0 _ _ _ _
      | exact ih1 _ _ _ _ _
      | exact ih2 _ _ _ _ _ _ _ _ _ _
      | exact LeO.none _
      | refine LeO.ite ?_ ?_
      | refine LeO.bind ?_ (fun _ => ?_)
set_option maxHeartbeats 8000000 in
set_option maxRecDepth 100000 in
theorem impl_texts.calls (k : Nat) (a0_0 : ByteArray) (A0_1 : Option Addr) (c0_1 : Nat) (l0_1 : List (S68)) (a0_2 : Int) (r : List ByteArray) (w : World) (hr0_1 : Kd.C k68 w A0_1 l0_1.length l0_1) (hc0_1 : l0_1.length ≤ c0_1) (h : impl_texts.f k a0_0 l0_1 a0_2 = some r) :
    Calls Try.prog 49 #[.agg #[.string a0_0, .slice A0_1 l0_1.length c0_1, .int .i64 a0_2]] w fun e w' => ∃ v0_ : Value, e = .returned (v0_) ∧ (Kd.R Kd.string 9 w' w.heap.size (fun _ => True) v0_ r ∧ NilIf r v0_) ∧ Below w.heap.size w w' := by
  have hu29 := Try.underlying29
  have hu68 := Try.underlying68
  have HR0_1 := am hr0_1
  have HC0_1 := am hc0_1
  clear hr0_1 hc0_1
  have HB := am (Below.refl w.heap.size w)
  have H : ((impl_long.f a0_0).bind fun t138 => (if t138 = true then (impl_texts.j0 k true a0_0 l0_1 a0_2) else (if (l0_1.length : Int) > 300 then (impl_texts.j0 k true a0_0 l0_1 a0_2) else (if a0_2 < 0 then (impl_texts.j0 k true a0_0 l0_1 a0_2) else (impl_texts.j0 k (decide (a0_2 > (l0_1.length : Int))) a0_0 l0_1 a0_2))))) = some r := h
  clear h
  have HC2 := am H
  clear H
  go_enter Try.func49, Try.ntmps49
  go_upto_region 1 with (first | ((with_reducible refine gate_dst (N := 1) rfl ?_); (try (refine gate_guard (by rfl) ?_; dsimp only)); refine bX (N := 1) (cs := #[.string a0_0, .slice A0_1 l0_1.length c0_1, .int .i64 a0_2]) (t := 29) ?_; intro gb137 hg w3 hbox hb; have BK137 := am (hbox); have GW137 := am ((by rw [hg]; exact (below_size (w := w) i_) : w.heap.size ≤ gb137)); have GE137 := am ((by rw [hg]; exact (below_size (w := w) i_) : w.heap.size ≤ gb137)); replace HB := am (below_step (w := w) i_ hb); clear hb hbox hg))
  repeat (go_quiet (fail); go_upto_region 1 with (first | ((with_reducible refine gate_dst (N := 1) rfl ?_); (try (refine gate_guard (by rfl) ?_; dsimp only)); refine bX (N := 1) (cs := #[.string a0_0, .slice A0_1 l0_1.length c0_1, .int .i64 a0_2]) (t := 29) ?_; intro gb137 hg w3 hbox hb; have BK137 := am (hbox); have GW137 := am ((by rw [hg]; exact (below_size (w := w) i_) : w.heap.size ≤ gb137)); have GE137 := am ((by rw [hg]; exact (below_size (w := w) i_) : w.heap.size ≤ gb137)); replace HB := am (below_step (w := w) i_ hb); clear hb hbox hg)))
  (try simp only [Act.put, List.setIfInBounds_toArray, List.set_cons_zero, List.set_cons_succ])
  go_cut [28] (fun v28 wc => ∃ (kq : Nat) (x28_1 : Bool), v28 = .bool x28_1 ∧ Fc (impl_texts.j0 kq x28_1 a0_0 l0_1 a0_2 = some r) ∧ Fc (kq ≤ k) ∧ Fc (wc.heap[gb137]? = some (.cells #[.string a0_0, (.slice A0_1 l0_1.length c0_1), .int .i64 a0_2] 29 (0, 0))) ∧ Fc (Below w.heap.size w wc))
  case first =>
    have H := HC2.out
    clear HC2
    replace H := Option.bind_eq_some_iff.mp H
    obtain ⟨t138, A40, H⟩ := H
    replace H : (if t138 = true then (impl_texts.j0 k true a0_0 l0_1 a0_2) else (if (l0_1.length : Int) > 300 then (impl_texts.j0 k true a0_0 l0_1 a0_2) else (if a0_2 < 0 then (impl_texts.j0 k true a0_0 l0_1 a0_2) else (impl_texts.j0 k (decide (a0_2 > (l0_1.length : Int))) a0_0 l0_1 a0_2)))) = some r := H
    have A4 := am A40
    clear A40
    by_cases c5 : t138 = true
    · subst c5
      have H1 : (impl_texts.j0 k true a0_0 l0_1 a0_2) = some r := by rw [if_pos rfl] at H; exact H
      clear H
      have H := H1
      clear H1
      have H' := am H
      clear H
      have hcz6 := bc3 BK137.out
      iterate 2 ((try go_wp2_with (first | (go_at_call 58; (with_reducible refine (impl_long.calls a0_0 true _ A4.out).mono ?_); rintro e w' ⟨rfl, ⟨nd, rfl⟩⟩; (try first | exact ⟨rfl, _, World.drewN_drewN _ _ _⟩ | exact ⟨rfl, _, Eq.trans (World.drewN_drewN _ _ _) (congrArg (World.drewN _) (Nat.add_assoc _ _ _))⟩)))); (try go_quiet (first | (go_at_call 58; (with_reducible refine (impl_long.calls a0_0 true _ A4.out).mono ?_); rintro e w' ⟨rfl, ⟨nd, rfl⟩⟩; (try first | exact ⟨rfl, _, World.drewN_drewN _ _ _⟩ | exact ⟨rfl, _, Eq.trans (World.drewN_drewN _ _ _) (congrArg (World.drewN _) (Nat.add_assoc _ _ _))⟩)))))
      go_meet
      case rel => exact ⟨_, (true), (by first | rfl | (simp; done) | (simp [*]; done)), H', ⟨by first | omega | exact Nat.le_refl _⟩, ⟨i_⟩, ⟨i_⟩⟩
    · replace c5 := Bool.eq_false_iff.mpr c5
      subst c5
      have H1 : (if (l0_1.length : Int) > 300 then (impl_texts.j0 k true a0_0 l0_1 a0_2) else (if a0_2 < 0 then (impl_texts.j0 k true a0_0 l0_1 a0_2) else (impl_texts.j0 k (decide (a0_2 > (l0_1.length : Int))) a0_0 l0_1 a0_2))) = some r := by rw [if_neg (show ¬ (false = true) by decide)] at H; exact H
      clear H
      have H := H1
      clear H1
      by_cases c7 : (l0_1.length : Int) > 300
      · rw [if_pos c7] at H
        have c7b0 : decide (300 < (l0_1.length : Int)) = true := decide_eq_true c7
        have c7b1 : decide (300 < l0_1.length) = true := decide_eq_true (by omega)
        clear c7
        (first | rw [c7b0] | (simp only [i64_w, i32_w]; rw [c7b0]) | skip)
        have H' := am H
        clear H
        have hcz8 := bc3 BK137.out
        iterate 2 ((try go_wp2_with (first | (go_at_call 58; (with_reducible refine (impl_long.calls a0_0 false _ A4.out).mono ?_); rintro e w' ⟨rfl, ⟨nd, rfl⟩⟩; (try first | exact ⟨rfl, _, World.drewN_drewN _ _ _⟩ | exact ⟨rfl, _, Eq.trans (World.drewN_drewN _ _ _) (congrArg (World.drewN _) (Nat.add_assoc _ _ _))⟩)))); (try go_quiet (first | (go_at_call 58; (with_reducible refine (impl_long.calls a0_0 false _ A4.out).mono ?_); rintro e w' ⟨rfl, ⟨nd, rfl⟩⟩; (try first | exact ⟨rfl, _, World.drewN_drewN _ _ _⟩ | exact ⟨rfl, _, Eq.trans (World.drewN_drewN _ _ _) (congrArg (World.drewN _) (Nat.add_assoc _ _ _))⟩)))))
        go_meet
        case rel => exact ⟨_, (true), (by first | rfl | (simp; done) | (simp [*]; done)), H', ⟨by first | omega | exact Nat.le_refl _⟩, ⟨i_⟩, ⟨i_⟩⟩
      · rw [if_neg c7] at H
        have c7b0 : decide (300 < (l0_1.length : Int)) = false := decide_eq_false c7
        have c7b1 : decide (300 < l0_1.length) = false := decide_eq_false (by omega)
        clear c7
        (first | rw [c7b0] | (simp only [i64_w, i32_w]; rw [c7b0]) | skip)
        by_cases c9 : a0_2 < 0
        · rw [if_pos c9] at H
          have c9b0 : decide (a0_2 < 0) = true := decide_eq_true c9
          clear c9
          have H' := am H
          clear H
          have hcz10 := bc3 BK137.out
          iterate 2 ((try go_wp2_with (first | (go_at_call 58; (with_reducible refine (impl_long.calls a0_0 false _ A4.out).mono ?_); rintro e w' ⟨rfl, ⟨nd, rfl⟩⟩; (try first | exact ⟨rfl, _, World.drewN_drewN _ _ _⟩ | exact ⟨rfl, _, Eq.trans (World.drewN_drewN _ _ _) (congrArg (World.drewN _) (Nat.add_assoc _ _ _))⟩)))); (try go_quiet (first | (go_at_call 58; (with_reducible refine (impl_long.calls a0_0 false _ A4.out).mono ?_); rintro e w' ⟨rfl, ⟨nd, rfl⟩⟩; (try first | exact ⟨rfl, _, World.drewN_drewN _ _ _⟩ | exact ⟨rfl, _, Eq.trans (World.drewN_drewN _ _ _) (congrArg (World.drewN _) (Nat.add_assoc _ _ _))⟩)))))
          go_meet
          case rel => exact ⟨_, (true), (by first | rfl | (simp; done) | (simp [*]; done)), H', ⟨by first | omega | exact Nat.le_refl _⟩, ⟨i_⟩, ⟨i_⟩⟩
        · rw [if_neg c9] at H
          have c9b0 : decide (a0_2 < 0) = false := decide_eq_false c9
          clear c9
          have H' := am H
          clear H
          have hcz11 := bc3 BK137.out
          iterate 2 ((try go_wp2_with (first | (go_at_call 58; (with_reducible refine (impl_long.calls a0_0 false _ A4.out).mono ?_); rintro e w' ⟨rfl, ⟨nd, rfl⟩⟩; (try first | exact ⟨rfl, _, World.drewN_drewN _ _ _⟩ | exact ⟨rfl, _, Eq.trans (World.drewN_drewN _ _ _) (congrArg (World.drewN _) (Nat.add_assoc _ _ _))⟩)))); (try go_quiet (first | (go_at_call 58; (with_reducible refine (impl_long.calls a0_0 false _ A4.out).mono ?_); rintro e w' ⟨rfl, ⟨nd, rfl⟩⟩; (try first | exact ⟨rfl, _, World.drewN_drewN _ _ _⟩ | exact ⟨rfl, _, Eq.trans (World.drewN_drewN _ _ _) (congrArg (World.drewN _) (Nat.add_assoc _ _ _))⟩)))))
          go_meet
          case rel => exact ⟨_, (decide (a0_2 > (l0_1.length : Int))), (by first | rfl | (simp; done) | (simp [*]; done)), H', ⟨by first | omega | exact Nat.le_refl _⟩, ⟨i_⟩, ⟨i_⟩⟩
  case rest =>
    clear HC2
    (try clear p2); (try clear c4); (try clear c5); (try clear c7); (try clear c7b0); (try clear c7b1); (try clear c9); (try clear c9b0); (try clear hcz10); (try clear hcz11); (try clear hcz6); (try clear hcz8)
    obtain ⟨kq, x28_1, rfl, HA, HJ1, BK137, HB⟩ := hcut
    cases kq with
    | zero => exact absurd HA.out (by simp [impl_texts.j0])
    | succ kj1 =>
      have H := HA.out
      clear HA
      simp only [impl_texts.j0] at H
      by_cases c12 : x28_1 = true
      · subst c12
        have H1 : (some ([] : List ByteArray)) = some r := by rw [if_pos rfl] at H; exact H
        clear H
        have H := H1
        clear H1
        obtain rfl := Option.some.inj H
        go_wp2
        repeat (go_quiet (fail); try go_wp2)
        go_ret
        exact ⟨_, by first | rfl | (simp [errW_none, errW_some] <;> rfl) | (simp [*, errW_none, errW_some] <;> rfl), ⟨by first | exact Kd.R_nil _ _ _ _ _ | exact Kd.N_nil _ _ _ _ _ | exact Kd.V_nil _ _ _ _ _ | exact Kd.Q_nil _ _ _ _ _ | exact Kd.S_nil _ _ _ _ _, NilIf.nil⟩, i_⟩
      · replace c12 := Bool.eq_false_iff.mpr c12
        subst c12
        have H1 : (impl_texts.l0 kj1 (([a0_0] : List ByteArray)) a0_0 l0_1 (l0_1.length : Int) 0) = some r := by rw [if_neg (show ¬ (false = true) by decide)] at H; exact H
        clear H
        have H := H1
        clear H1
        obtain ⟨y139, hy139⟩ : ∃ y_ : List ByteArray, y_ = (([a0_0] : List ByteArray)) := ⟨_, rfl⟩
        replace H : (impl_texts.l0 kj1 y139 a0_0 l0_1 (l0_1.length : Int) 0) = some r := by first | (rw [hy139]; with_reducible exact H) | (have H2_ := (Option.bind_some _ _).symm.trans H; rw [hy139]; with_reducible exact H2_) | (have H2_ := (Option.bind_some _ _).symm.trans H; with_reducible exact H2_) | with_reducible exact H | (rw [hy139]; exact H) | exact H
        have Ny139 := am hy139
        clear hy139
        have H' := am H
        clear H
        have hcz13 := bc3 BK137.out
        iterate 2 ((try go_wp2_with (first | ((with_reducible refine gate_dst (N := 31) rfl ?_); (try (refine gate_guard (by rfl) ?_; dsimp only)); refine Kd.R_lit Kd.string _ 9 ?hg (N := 31) ?hd (xs := ([a0_0] : List ByteArray)) (inner := [.string a0_0]) (ok := fun _ => True) (okp := fun _ => True) ?hr ?hp (fun _ hk => hk) trivial (Below.refl _ _) (Nat.le_refl _) (by simp) ?_; (case hd => rfl); (case hg => rfl); (case hr => first | (go_simp; done) | (go_simp; rfl)); (case hp => exact (Reps.one (show Kd.M Kd.string _ _ _ a0_0 [.string a0_0] from rfl) (Reps.none _ _))); intro v140 w14 ho15 hb hg_ hnew_; clear hg_ hnew_; (first | rw [← Ny139.out] at ho15 | (simp only [Int.reduceToNat] at ho15; rw [← Ny139.out] at ho15)); have HO141 := am (Kd.R_lower ho15 (below_size (w := w) i_)); replace BK137 := am (blk_below (g := gb137) (o := .cells #[.string a0_0, .slice A0_1 l0_1.length c0_1, .int .i64 a0_2] 29 (0, 0)) i_ hb); replace HB := am (below_step (w := w) i_ hb); clear hb ho15; have hcz16 := bc3 BK137.out))); (try go_quiet (fail)))
        go_loopg [3, 4, 37] kj1 (fun kq v3 v4 v37 w' => ∃ (x3_2 : List ByteArray) (x4_2 : ByteArray) (x37_2 : Int), v4 = .string x4_2 ∧ v37 = .int .i64 x37_2 ∧ Fc (impl_texts.l0 kq x3_2 x4_2 l0_1 (l0_1.length : Int) x37_2 = some r) ∧ Fc (kq ≤ kj1) ∧ Fc (Kd.R Kd.string 9 w' w.heap.size (fun _ => True) v3 x3_2) ∧ Fc (w'.heap[gb137]? = some (.cells #[.string a0_0, (.slice A0_1 l0_1.length c0_1), .int .i64 a0_2] 29 (0, 0))) ∧ Fc (Below w.heap.size w w'))
        case atStart => exact ⟨(y139), (a0_0), (0), (by first | rfl | (simp; done) | (simp [*]; done)), (by first | rfl | (simp; done) | (simp [*]; done)), H', ⟨Nat.le_refl _⟩, ⟨i_⟩, ⟨i_⟩, ⟨i_⟩⟩
        case round =>
          clear H'
          (try clear c1); (try clear p2); (try clear c4); (try clear c5); (try clear c7); (try clear c7b0); (try clear c7b1); (try clear c9); (try clear c9b0); (try clear c12); (try clear hcz10); (try clear hcz11); (try clear hcz13); (try clear hcz16); (try clear hcz6); (try clear hcz8)
          obtain ⟨x3_2, x4_2, x37_2, rfl, rfl, HA, HK2, HO_3, BK137, HB⟩ := hrel
          cases gk with
          | zero => exact absurd HA.out (by simp [impl_texts.l0])
          | succ k2 =>
            have H := HA.out
            clear HA
            simp only [impl_texts.l0] at H
            by_cases c17 : x37_2 < (l0_1.length : Int)
            · rw [if_pos c17] at H
              have c17b0 : decide (x37_2 < (l0_1.length : Int)) = true := decide_eq_true c17
              clear c17
              by_cases c18 : 0 ≤ x37_2
              · rw [if_pos c18] at H
                have c18b0 : decide (0 ≤ x37_2) = true := decide_eq_true c18
                clear c18
                by_cases c19 : x37_2 < (l0_1.length : Int)
                · rw [if_pos c19] at H
                  have c19b0 : decide (x37_2 < (l0_1.length : Int)) = true := decide_eq_true c19
                  clear c19
                  have HC20 := am H
                  clear H
                  have p142 : 0 ≤ (x37_2 : Int) := of_decide_eq_true (by first | (with_reducible assumption) | assumption)
                  have q142 : x37_2 < (l0_1.length : Int) := of_decide_eq_true (by first | (with_reducible assumption) | assumption)
                  obtain ⟨ad142, e142, hx142_0, hx142_1, hx142_2, hx142_3⟩ := at_T68 HR0_1.out x37_2 p142 q142
                  cases e142
                  replace hx142_0 := (HB.out.cell (World.block_lt_of_cell? w _ hx142_0)).trans hx142_0
                  replace hx142_1 := (HB.out.cell (World.block_lt_of_cell? w _ hx142_1)).trans hx142_1
                  replace hx142_2 := (HB.out.cell (World.block_lt_of_cell? w _ hx142_2)).trans hx142_2
                  replace hx142_3 := (HB.out.cell (World.block_lt_of_cell? w _ hx142_3)).trans hx142_3
                  replace p142 := eq_true p142
                  replace q142 := eq_true q142
                  go_upto_region 8 with (first | ((with_reducible refine gate_dst (N := 6) rfl ?_); (try (refine gate_guard (by rfl) ?_; dsimp only)); refine bX (N := 6) (cs := #[.int .i64 0, .string (⟨#[]⟩ : ByteArray), .string (⟨#[]⟩ : ByteArray), .int .i64 0]) (t := 68) ?_; intro gb143 hg w21 hbox hb; have BK143 := am (hbox); have GW143 := am ((by rw [hg]; exact (below_size (w := w) i_) : w.heap.size ≤ gb143)); have GE143 := am ((by rw [hg]; exact (below_size (w := w) i_) : w.heap.size ≤ gb143)); have NB137_143 := am ((by rw [hg]; exact Nat.ne_of_lt (blk_lt (g := gb137) (o := .cells #[.string a0_0, .slice (some ad142) l0_1.length c0_1, .int .i64 a0_2] 29 (0, 0)) i_) : gb137 ≠ gb143)); have NB143_137 := am ((by rw [hg]; exact Nat.ne_of_gt (blk_lt (g := gb137) (o := .cells #[.string a0_0, .slice (some ad142) l0_1.length c0_1, .int .i64 a0_2] 29 (0, 0)) i_) : gb143 ≠ gb137)); replace HO_3 := am (rB HO_3.out i_ hb); replace BK137 := am (blk_below (g := gb137) (o := .cells #[.string a0_0, .slice (some ad142) l0_1.length c0_1, .int .i64 a0_2] 29 (0, 0)) i_ hb); replace HB := am (below_step (w := w) i_ hb); clear hb hbox hg; have hnb22 := NB143_137.out; have hnc22 := NB137_143.out; have hcz23 := bc4 BK143.out))
                  repeat (go_quiet (fail); go_upto_region 8 with (first | ((with_reducible refine gate_dst (N := 6) rfl ?_); (try (refine gate_guard (by rfl) ?_; dsimp only)); refine bX (N := 6) (cs := #[.int .i64 0, .string (⟨#[]⟩ : ByteArray), .string (⟨#[]⟩ : ByteArray), .int .i64 0]) (t := 68) ?_; intro gb143 hg w21 hbox hb; have BK143 := am (hbox); have GW143 := am ((by rw [hg]; exact (below_size (w := w) i_) : w.heap.size ≤ gb143)); have GE143 := am ((by rw [hg]; exact (below_size (w := w) i_) : w.heap.size ≤ gb143)); have NB137_143 := am ((by rw [hg]; exact Nat.ne_of_lt (blk_lt (g := gb137) (o := .cells #[.string a0_0, .slice (some ad142) l0_1.length c0_1, .int .i64 a0_2] 29 (0, 0)) i_) : gb137 ≠ gb143)); have NB143_137 := am ((by rw [hg]; exact Nat.ne_of_gt (blk_lt (g := gb137) (o := .cells #[.string a0_0, .slice (some ad142) l0_1.length c0_1, .int .i64 a0_2] 29 (0, 0)) i_) : gb143 ≠ gb137)); replace HO_3 := am (rB HO_3.out i_ hb); replace BK137 := am (blk_below (g := gb137) (o := .cells #[.string a0_0, .slice (some ad142) l0_1.length c0_1, .int .i64 a0_2] 29 (0, 0)) i_ hb); replace HB := am (below_step (w := w) i_ hb); clear hb hbox hg; have hnb22 := NB143_137.out; have hnc22 := NB137_143.out; have hcz23 := bc4 BK143.out)))
                  (try simp only [Act.put, List.setIfInBounds_toArray, List.set_cons_zero, List.set_cons_succ])
                  go_cut [77] (fun v77 wc => ∃ (kq : Nat) (x77_19 : Bool), v77 = .bool x77_19 ∧ Fc (impl_texts.j2 kq x3_2 x4_2 l0_1 (l0_1.length : Int) x37_2 x77_19 ((rd_T68 l0_1 x37_2).f0) ((rd_T68 l0_1 x37_2).f1) ((rd_T68 l0_1 x37_2).f2) ((rd_T68 l0_1 x37_2).f3) = some r) ∧ Fc (kq ≤ k2) ∧ Fc (Kd.R Kd.string 9 wc w.heap.size (fun _ => True) u3 x3_2) ∧ Fc (wc.heap[gb137]? = some (.cells #[.string a0_0, (.slice (some ad142) l0_1.length c0_1), .int .i64 a0_2] 29 (0, 0))) ∧ Fc (wc.heap[gb143]? = some (.cells #[.int .i64 ((rd_T68 l0_1 x37_2).f0), .string ((rd_T68 l0_1 x37_2).f1), .string ((rd_T68 l0_1 x37_2).f2), .int .i64 ((rd_T68 l0_1 x37_2).f3)] 68 (0, 0))) ∧ Fc (Below w.heap.size w wc))
                  case first =>
                    have H := HC20.out
                    clear HC20
                    by_cases c24 : ((rd_T68 l0_1 x37_2).f0) < 0
                    · rw [if_pos c24] at H
                      have c24b0 : decide (((rd_T68 l0_1 x37_2).f0) < 0) = true := decide_eq_true c24
                      clear c24
                      (first | rw [c24b0] | (simp only [i64_w, i32_w]; rw [c24b0]) | skip)
                      have H' := am H
                      clear H
                      have hnb25 := NB143_137.out
                      have hnc25 := NB137_143.out
                      have hcz26 := bc4 BK143.out
                      go_wp2
                      repeat (go_quiet (fail); try go_wp2)
                      go_meet
                      case rel => exact ⟨_, (true), (by first | rfl | (simp; done) | (simp [*]; done)), H', ⟨by have := HJ1.out; have := HK2.out; first | omega | exact Nat.le_refl _⟩, ⟨by (with_reducible repeat (first | apply Kd.R_alloc | apply Kd.R_drewN | apply Kd.R_drew)); exact Kd.R_mono (Kd.R_far (p := ⟨gb143, 3, none⟩) (Kd.R_far (p := ⟨gb143, 2, none⟩) (Kd.R_far (p := ⟨gb143, 1, none⟩) (Kd.R_far (p := ⟨gb143, 0, none⟩) (Kd.R_types HO_3.out BK143.out (by decide)) (fun _ hk => hk.2) (.int .i64 ((rd_T68 l0_1 x37_2).f0))) (fun _ hk => hk.2) (.string ((rd_T68 l0_1 x37_2).f1))) (fun _ hk => hk.2) (.string ((rd_T68 l0_1 x37_2).f2))) (fun _ hk => hk.2) (.int .i64 ((rd_T68 l0_1 x37_2).f3))) (fun _ hk => trivial)⟩, ⟨i_⟩, ⟨by (with_reducible repeat (first | refine blk_drewN ?_ _ | refine blk_drew ?_ | refine blk_alloc ?_ _)); refine blk_put (cs := #[.int .i64 ((rd_T68 l0_1 x37_2).f0), .string ((rd_T68 l0_1 x37_2).f1), .string ((rd_T68 l0_1 x37_2).f2), .int .i64 0]) ?_ 3 _ rfl; (with_reducible repeat (first | refine blk_drewN ?_ _ | refine blk_drew ?_ | refine blk_alloc ?_ _)); refine blk_put (cs := #[.int .i64 ((rd_T68 l0_1 x37_2).f0), .string ((rd_T68 l0_1 x37_2).f1), .string (⟨#[]⟩ : ByteArray), .int .i64 0]) ?_ 2 _ rfl; (with_reducible repeat (first | refine blk_drewN ?_ _ | refine blk_drew ?_ | refine blk_alloc ?_ _)); refine blk_put (cs := #[.int .i64 ((rd_T68 l0_1 x37_2).f0), .string (⟨#[]⟩ : ByteArray), .string (⟨#[]⟩ : ByteArray), .int .i64 0]) ?_ 1 _ rfl; (with_reducible repeat (first | refine blk_drewN ?_ _ | refine blk_drew ?_ | refine blk_alloc ?_ _)); refine blk_put (cs := #[.int .i64 0, .string (⟨#[]⟩ : ByteArray), .string (⟨#[]⟩ : ByteArray), .int .i64 0]) ?_ 0 _ rfl; (with_reducible repeat (first | refine blk_drewN ?_ _ | refine blk_drew ?_ | refine blk_alloc ?_ _)); exact BK143.out⟩, ⟨i_⟩⟩
                    · rw [if_neg c24] at H
                      have c24b0 : decide (((rd_T68 l0_1 x37_2).f0) < 0) = false := decide_eq_false c24
                      clear c24
                      (first | rw [c24b0] | (simp only [i64_w, i32_w]; rw [c24b0]) | skip)
                      by_cases c27 : ((rd_T68 l0_1 x37_2).f0) > (x4_2.size : Int)
                      · rw [if_pos c27] at H
                        have c27b0 : decide ((x4_2.size : Int) < ((rd_T68 l0_1 x37_2).f0)) = true := decide_eq_true c27
                        clear c27
                        have H' := am H
                        clear H
                        have hnb28 := NB143_137.out
                        have hnc28 := NB137_143.out
                        have hcz29 := bc4 BK143.out
                        go_wp2
                        repeat (go_quiet (fail); try go_wp2)
                        go_meet
                        case rel => exact ⟨_, (true), (by first | rfl | (simp; done) | (simp [*]; done)), H', ⟨by have := HJ1.out; have := HK2.out; first | omega | exact Nat.le_refl _⟩, ⟨by (with_reducible repeat (first | apply Kd.R_alloc | apply Kd.R_drewN | apply Kd.R_drew)); exact Kd.R_mono (Kd.R_far (p := ⟨gb143, 3, none⟩) (Kd.R_far (p := ⟨gb143, 2, none⟩) (Kd.R_far (p := ⟨gb143, 1, none⟩) (Kd.R_far (p := ⟨gb143, 0, none⟩) (Kd.R_types HO_3.out BK143.out (by decide)) (fun _ hk => hk.2) (.int .i64 ((rd_T68 l0_1 x37_2).f0))) (fun _ hk => hk.2) (.string ((rd_T68 l0_1 x37_2).f1))) (fun _ hk => hk.2) (.string ((rd_T68 l0_1 x37_2).f2))) (fun _ hk => hk.2) (.int .i64 ((rd_T68 l0_1 x37_2).f3))) (fun _ hk => trivial)⟩, ⟨i_⟩, ⟨by (with_reducible repeat (first | refine blk_drewN ?_ _ | refine blk_drew ?_ | refine blk_alloc ?_ _)); refine blk_put (cs := #[.int .i64 ((rd_T68 l0_1 x37_2).f0), .string ((rd_T68 l0_1 x37_2).f1), .string ((rd_T68 l0_1 x37_2).f2), .int .i64 0]) ?_ 3 _ rfl; (with_reducible repeat (first | refine blk_drewN ?_ _ | refine blk_drew ?_ | refine blk_alloc ?_ _)); refine blk_put (cs := #[.int .i64 ((rd_T68 l0_1 x37_2).f0), .string ((rd_T68 l0_1 x37_2).f1), .string (⟨#[]⟩ : ByteArray), .int .i64 0]) ?_ 2 _ rfl; (with_reducible repeat (first | refine blk_drewN ?_ _ | refine blk_drew ?_ | refine blk_alloc ?_ _)); refine blk_put (cs := #[.int .i64 ((rd_T68 l0_1 x37_2).f0), .string (⟨#[]⟩ : ByteArray), .string (⟨#[]⟩ : ByteArray), .int .i64 0]) ?_ 1 _ rfl; (with_reducible repeat (first | refine blk_drewN ?_ _ | refine blk_drew ?_ | refine blk_alloc ?_ _)); refine blk_put (cs := #[.int .i64 0, .string (⟨#[]⟩ : ByteArray), .string (⟨#[]⟩ : ByteArray), .int .i64 0]) ?_ 0 _ rfl; (with_reducible repeat (first | refine blk_drewN ?_ _ | refine blk_drew ?_ | refine blk_alloc ?_ _)); exact BK143.out⟩, ⟨i_⟩⟩
                      · rw [if_neg c27] at H
                        have c27b0 : decide ((x4_2.size : Int) < ((rd_T68 l0_1 x37_2).f0)) = false := decide_eq_false c27
                        clear c27
                        by_cases c30 : 0 ≤ ((rd_T68 l0_1 x37_2).f0)
                        · rw [if_pos c30] at H
                          have c30b0 := eq_true c30
                          have c30b1 : decide (0 ≤ ((rd_T68 l0_1 x37_2).f0)) = true := decide_eq_true c30
                          clear c30
                          by_cases c31 : ((rd_T68 l0_1 x37_2).f0) ≤ (x4_2.size : Int)
                          · rw [if_pos c31] at H
                            have c31b0 := eq_true c31
                            have c31b1 : decide (((rd_T68 l0_1 x37_2).f0) ≤ (x4_2.size : Int)) = true := decide_eq_true c31
                            clear c31
                            replace H := Option.bind_eq_some_iff.mp H
                            obtain ⟨t144, A320, H⟩ := H
                            replace H : (if t144 = true then (if ((rd_T68 l0_1 x37_2).f1).toList = ((rd_T68 l0_1 x37_2).f2).toList then (impl_texts.j2 k2 x3_2 x4_2 l0_1 (l0_1.length : Int) x37_2 true ((rd_T68 l0_1 x37_2).f0) ((rd_T68 l0_1 x37_2).f1) ((rd_T68 l0_1 x37_2).f2) ((rd_T68 l0_1 x37_2).f3)) else (if ((rd_T68 l0_1 x37_2).f3) < 0 then (impl_texts.j2 k2 x3_2 x4_2 l0_1 (l0_1.length : Int) x37_2 true ((rd_T68 l0_1 x37_2).f0) ((rd_T68 l0_1 x37_2).f1) ((rd_T68 l0_1 x37_2).f2) ((rd_T68 l0_1 x37_2).f3)) else (impl_texts.j2 k2 x3_2 x4_2 l0_1 (l0_1.length : Int) x37_2 (decide (((rd_T68 l0_1 x37_2).f3) > 1000000)) ((rd_T68 l0_1 x37_2).f0) ((rd_T68 l0_1 x37_2).f1) ((rd_T68 l0_1 x37_2).f2) ((rd_T68 l0_1 x37_2).f3)))) else (impl_texts.j2 k2 x3_2 x4_2 l0_1 (l0_1.length : Int) x37_2 true ((rd_T68 l0_1 x37_2).f0) ((rd_T68 l0_1 x37_2).f1) ((rd_T68 l0_1 x37_2).f2) ((rd_T68 l0_1 x37_2).f3))) = some r := H
                            have A32 := am A320
                            clear A320
                            by_cases c33 : t144 = true
                            · subst c33
                              have H1 : (if ((rd_T68 l0_1 x37_2).f1).toList = ((rd_T68 l0_1 x37_2).f2).toList then (impl_texts.j2 k2 x3_2 x4_2 l0_1 (l0_1.length : Int) x37_2 true ((rd_T68 l0_1 x37_2).f0) ((rd_T68 l0_1 x37_2).f1) ((rd_T68 l0_1 x37_2).f2) ((rd_T68 l0_1 x37_2).f3)) else (if ((rd_T68 l0_1 x37_2).f3) < 0 then (impl_texts.j2 k2 x3_2 x4_2 l0_1 (l0_1.length : Int) x37_2 true ((rd_T68 l0_1 x37_2).f0) ((rd_T68 l0_1 x37_2).f1) ((rd_T68 l0_1 x37_2).f2) ((rd_T68 l0_1 x37_2).f3)) else (impl_texts.j2 k2 x3_2 x4_2 l0_1 (l0_1.length : Int) x37_2 (decide (((rd_T68 l0_1 x37_2).f3) > 1000000)) ((rd_T68 l0_1 x37_2).f0) ((rd_T68 l0_1 x37_2).f1) ((rd_T68 l0_1 x37_2).f2) ((rd_T68 l0_1 x37_2).f3)))) = some r := by rw [if_pos rfl] at H; exact H
                              clear H
                              have H := H1
                              clear H1
                              by_cases c34 : ((rd_T68 l0_1 x37_2).f1).toList = ((rd_T68 l0_1 x37_2).f2).toList
                              · rw [if_pos c34] at H
                                have c34b0 : (((rd_T68 l0_1 x37_2).f1).toList == ((rd_T68 l0_1 x37_2).f2).toList) = true := beq_iff_eq.mpr c34
                                have c34b1 : (((rd_T68 l0_1 x37_2).f1).toList != ((rd_T68 l0_1 x37_2).f2).toList) = false := bne_eq_false_iff_eq.mpr c34
                                clear c34
                                have H' := am H
                                clear H
                                have hnb35 := NB143_137.out
                                have hnc35 := NB137_143.out
                                have hcz36 := bc4 BK143.out
                                iterate 2 ((try go_wp2_with (first | (go_at_call 74; (with_reducible refine (strings_HasPrefix.calls (x4_2.extract (((rd_T68 l0_1 x37_2).f0) : Int).toNat x4_2.size) ((rd_T68 l0_1 x37_2).f1) true _ A32.out).mono ?_); rintro e w' ⟨rfl, ⟨nd, rfl⟩⟩; (try first | exact ⟨rfl, _, World.drewN_drewN _ _ _⟩ | exact ⟨rfl, _, Eq.trans (World.drewN_drewN _ _ _) (congrArg (World.drewN _) (Nat.add_assoc _ _ _))⟩)))); (try go_quiet (first | (go_at_call 74; (with_reducible refine (strings_HasPrefix.calls (x4_2.extract (((rd_T68 l0_1 x37_2).f0) : Int).toNat x4_2.size) ((rd_T68 l0_1 x37_2).f1) true _ A32.out).mono ?_); rintro e w' ⟨rfl, ⟨nd, rfl⟩⟩; (try first | exact ⟨rfl, _, World.drewN_drewN _ _ _⟩ | exact ⟨rfl, _, Eq.trans (World.drewN_drewN _ _ _) (congrArg (World.drewN _) (Nat.add_assoc _ _ _))⟩)))))
                                go_meet
                                case rel => exact ⟨_, (true), (by first | rfl | (simp; done) | (simp [*]; done)), H', ⟨by have := HJ1.out; have := HK2.out; first | omega | exact Nat.le_refl _⟩, ⟨by (with_reducible repeat (first | apply Kd.R_alloc | apply Kd.R_drewN | apply Kd.R_drew)); exact Kd.R_mono (Kd.R_far (p := ⟨gb143, 3, none⟩) (Kd.R_far (p := ⟨gb143, 2, none⟩) (Kd.R_far (p := ⟨gb143, 1, none⟩) (Kd.R_far (p := ⟨gb143, 0, none⟩) (Kd.R_types HO_3.out BK143.out (by decide)) (fun _ hk => hk.2) (.int .i64 ((rd_T68 l0_1 x37_2).f0))) (fun _ hk => hk.2) (.string ((rd_T68 l0_1 x37_2).f1))) (fun _ hk => hk.2) (.string ((rd_T68 l0_1 x37_2).f2))) (fun _ hk => hk.2) (.int .i64 ((rd_T68 l0_1 x37_2).f3))) (fun _ hk => trivial)⟩, ⟨i_⟩, ⟨by (with_reducible repeat (first | refine blk_drewN ?_ _ | refine blk_drew ?_ | refine blk_alloc ?_ _)); refine blk_put (cs := #[.int .i64 ((rd_T68 l0_1 x37_2).f0), .string ((rd_T68 l0_1 x37_2).f1), .string ((rd_T68 l0_1 x37_2).f2), .int .i64 0]) ?_ 3 _ rfl; (with_reducible repeat (first | refine blk_drewN ?_ _ | refine blk_drew ?_ | refine blk_alloc ?_ _)); refine blk_put (cs := #[.int .i64 ((rd_T68 l0_1 x37_2).f0), .string ((rd_T68 l0_1 x37_2).f1), .string (⟨#[]⟩ : ByteArray), .int .i64 0]) ?_ 2 _ rfl; (with_reducible repeat (first | refine blk_drewN ?_ _ | refine blk_drew ?_ | refine blk_alloc ?_ _)); refine blk_put (cs := #[.int .i64 ((rd_T68 l0_1 x37_2).f0), .string (⟨#[]⟩ : ByteArray), .string (⟨#[]⟩ : ByteArray), .int .i64 0]) ?_ 1 _ rfl; (with_reducible repeat (first | refine blk_drewN ?_ _ | refine blk_drew ?_ | refine blk_alloc ?_ _)); refine blk_put (cs := #[.int .i64 0, .string (⟨#[]⟩ : ByteArray), .string (⟨#[]⟩ : ByteArray), .int .i64 0]) ?_ 0 _ rfl; (with_reducible repeat (first | refine blk_drewN ?_ _ | refine blk_drew ?_ | refine blk_alloc ?_ _)); exact BK143.out⟩, ⟨i_⟩⟩
                              · rw [if_neg c34] at H
                                have c34b0 : (((rd_T68 l0_1 x37_2).f1).toList == ((rd_T68 l0_1 x37_2).f2).toList) = false := beq_eq_false_iff_ne.mpr c34
                                have c34b1 : (((rd_T68 l0_1 x37_2).f1).toList != ((rd_T68 l0_1 x37_2).f2).toList) = true := bne_iff_ne.mpr c34
                                by_cases c37 : ((rd_T68 l0_1 x37_2).f3) < 0
                                · rw [if_pos c37] at H
                                  have c37b0 : decide (((rd_T68 l0_1 x37_2).f3) < 0) = true := decide_eq_true c37
                                  clear c37
                                  have H' := am H
                                  clear H
                                  have hnb38 := NB143_137.out
                                  have hnc38 := NB137_143.out
                                  have hcz39 := bc4 BK143.out
                                  iterate 2 ((try go_wp2_with (first | (go_at_call 74; (with_reducible refine (strings_HasPrefix.calls (x4_2.extract (((rd_T68 l0_1 x37_2).f0) : Int).toNat x4_2.size) ((rd_T68 l0_1 x37_2).f1) true _ A32.out).mono ?_); rintro e w' ⟨rfl, ⟨nd, rfl⟩⟩; (try first | exact ⟨rfl, _, World.drewN_drewN _ _ _⟩ | exact ⟨rfl, _, Eq.trans (World.drewN_drewN _ _ _) (congrArg (World.drewN _) (Nat.add_assoc _ _ _))⟩)))); (try go_quiet (first | (go_at_call 74; (with_reducible refine (strings_HasPrefix.calls (x4_2.extract (((rd_T68 l0_1 x37_2).f0) : Int).toNat x4_2.size) ((rd_T68 l0_1 x37_2).f1) true _ A32.out).mono ?_); rintro e w' ⟨rfl, ⟨nd, rfl⟩⟩; (try first | exact ⟨rfl, _, World.drewN_drewN _ _ _⟩ | exact ⟨rfl, _, Eq.trans (World.drewN_drewN _ _ _) (congrArg (World.drewN _) (Nat.add_assoc _ _ _))⟩)))))
                                  go_meet
                                  case rel => exact ⟨_, (true), (by first | rfl | (simp; done) | (simp [*]; done)), H', ⟨by have := HJ1.out; have := HK2.out; first | omega | exact Nat.le_refl _⟩, ⟨by (with_reducible repeat (first | apply Kd.R_alloc | apply Kd.R_drewN | apply Kd.R_drew)); exact Kd.R_mono (Kd.R_far (p := ⟨gb143, 3, none⟩) (Kd.R_far (p := ⟨gb143, 2, none⟩) (Kd.R_far (p := ⟨gb143, 1, none⟩) (Kd.R_far (p := ⟨gb143, 0, none⟩) (Kd.R_types HO_3.out BK143.out (by decide)) (fun _ hk => hk.2) (.int .i64 ((rd_T68 l0_1 x37_2).f0))) (fun _ hk => hk.2) (.string ((rd_T68 l0_1 x37_2).f1))) (fun _ hk => hk.2) (.string ((rd_T68 l0_1 x37_2).f2))) (fun _ hk => hk.2) (.int .i64 ((rd_T68 l0_1 x37_2).f3))) (fun _ hk => trivial)⟩, ⟨i_⟩, ⟨by (with_reducible repeat (first | refine blk_drewN ?_ _ | refine blk_drew ?_ | refine blk_alloc ?_ _)); refine blk_put (cs := #[.int .i64 ((rd_T68 l0_1 x37_2).f0), .string ((rd_T68 l0_1 x37_2).f1), .string ((rd_T68 l0_1 x37_2).f2), .int .i64 0]) ?_ 3 _ rfl; (with_reducible repeat (first | refine blk_drewN ?_ _ | refine blk_drew ?_ | refine blk_alloc ?_ _)); refine blk_put (cs := #[.int .i64 ((rd_T68 l0_1 x37_2).f0), .string ((rd_T68 l0_1 x37_2).f1), .string (⟨#[]⟩ : ByteArray), .int .i64 0]) ?_ 2 _ rfl; (with_reducible repeat (first | refine blk_drewN ?_ _ | refine blk_drew ?_ | refine blk_alloc ?_ _)); refine blk_put (cs := #[.int .i64 ((rd_T68 l0_1 x37_2).f0), .string (⟨#[]⟩ : ByteArray), .string (⟨#[]⟩ : ByteArray), .int .i64 0]) ?_ 1 _ rfl; (with_reducible repeat (first | refine blk_drewN ?_ _ | refine blk_drew ?_ | refine blk_alloc ?_ _)); refine blk_put (cs := #[.int .i64 0, .string (⟨#[]⟩ : ByteArray), .string (⟨#[]⟩ : ByteArray), .int .i64 0]) ?_ 0 _ rfl; (with_reducible repeat (first | refine blk_drewN ?_ _ | refine blk_drew ?_ | refine blk_alloc ?_ _)); exact BK143.out⟩, ⟨i_⟩⟩
                                · rw [if_neg c37] at H
                                  have c37b0 : decide (((rd_T68 l0_1 x37_2).f3) < 0) = false := decide_eq_false c37
                                  clear c37
                                  have H' := am H
                                  clear H
                                  have hnb40 := NB143_137.out
                                  have hnc40 := NB137_143.out
                                  have hcz41 := bc4 BK143.out
                                  iterate 2 ((try go_wp2_with (first | (go_at_call 74; (with_reducible refine (strings_HasPrefix.calls (x4_2.extract (((rd_T68 l0_1 x37_2).f0) : Int).toNat x4_2.size) ((rd_T68 l0_1 x37_2).f1) true _ A32.out).mono ?_); rintro e w' ⟨rfl, ⟨nd, rfl⟩⟩; (try first | exact ⟨rfl, _, World.drewN_drewN _ _ _⟩ | exact ⟨rfl, _, Eq.trans (World.drewN_drewN _ _ _) (congrArg (World.drewN _) (Nat.add_assoc _ _ _))⟩)))); (try go_quiet (first | (go_at_call 74; (with_reducible refine (strings_HasPrefix.calls (x4_2.extract (((rd_T68 l0_1 x37_2).f0) : Int).toNat x4_2.size) ((rd_T68 l0_1 x37_2).f1) true _ A32.out).mono ?_); rintro e w' ⟨rfl, ⟨nd, rfl⟩⟩; (try first | exact ⟨rfl, _, World.drewN_drewN _ _ _⟩ | exact ⟨rfl, _, Eq.trans (World.drewN_drewN _ _ _) (congrArg (World.drewN _) (Nat.add_assoc _ _ _))⟩)))))
                                  go_meet
                                  case rel => exact ⟨_, (decide (((rd_T68 l0_1 x37_2).f3) > 1000000)), (by first | rfl | (simp; done) | (simp [*]; done)), H', ⟨by have := HJ1.out; have := HK2.out; first | omega | exact Nat.le_refl _⟩, ⟨by (with_reducible repeat (first | apply Kd.R_alloc | apply Kd.R_drewN | apply Kd.R_drew)); exact Kd.R_mono (Kd.R_far (p := ⟨gb143, 3, none⟩) (Kd.R_far (p := ⟨gb143, 2, none⟩) (Kd.R_far (p := ⟨gb143, 1, none⟩) (Kd.R_far (p := ⟨gb143, 0, none⟩) (Kd.R_types HO_3.out BK143.out (by decide)) (fun _ hk => hk.2) (.int .i64 ((rd_T68 l0_1 x37_2).f0))) (fun _ hk => hk.2) (.string ((rd_T68 l0_1 x37_2).f1))) (fun _ hk => hk.2) (.string ((rd_T68 l0_1 x37_2).f2))) (fun _ hk => hk.2) (.int .i64 ((rd_T68 l0_1 x37_2).f3))) (fun _ hk => trivial)⟩, ⟨i_⟩, ⟨by (with_reducible repeat (first | refine blk_drewN ?_ _ | refine blk_drew ?_ | refine blk_alloc ?_ _)); refine blk_put (cs := #[.int .i64 ((rd_T68 l0_1 x37_2).f0), .string ((rd_T68 l0_1 x37_2).f1), .string ((rd_T68 l0_1 x37_2).f2), .int .i64 0]) ?_ 3 _ rfl; (with_reducible repeat (first | refine blk_drewN ?_ _ | refine blk_drew ?_ | refine blk_alloc ?_ _)); refine blk_put (cs := #[.int .i64 ((rd_T68 l0_1 x37_2).f0), .string ((rd_T68 l0_1 x37_2).f1), .string (⟨#[]⟩ : ByteArray), .int .i64 0]) ?_ 2 _ rfl; (with_reducible repeat (first | refine blk_drewN ?_ _ | refine blk_drew ?_ | refine blk_alloc ?_ _)); refine blk_put (cs := #[.int .i64 ((rd_T68 l0_1 x37_2).f0), .string (⟨#[]⟩ : ByteArray), .string (⟨#[]⟩ : ByteArray), .int .i64 0]) ?_ 1 _ rfl; (with_reducible repeat (first | refine blk_drewN ?_ _ | refine blk_drew ?_ | refine blk_alloc ?_ _)); refine blk_put (cs := #[.int .i64 0, .string (⟨#[]⟩ : ByteArray), .string (⟨#[]⟩ : ByteArray), .int .i64 0]) ?_ 0 _ rfl; (with_reducible repeat (first | refine blk_drewN ?_ _ | refine blk_drew ?_ | refine blk_alloc ?_ _)); exact BK143.out⟩, ⟨i_⟩⟩
                            · replace c33 := Bool.eq_false_iff.mpr c33
                              subst c33
                              have H1 : (impl_texts.j2 k2 x3_2 x4_2 l0_1 (l0_1.length : Int) x37_2 true ((rd_T68 l0_1 x37_2).f0) ((rd_T68 l0_1 x37_2).f1) ((rd_T68 l0_1 x37_2).f2) ((rd_T68 l0_1 x37_2).f3)) = some r := by rw [if_neg (show ¬ (false = true) by decide)] at H; exact H
                              clear H
                              have H := H1
                              clear H1
                              have H' := am H
                              clear H
                              have hnb42 := NB143_137.out
                              have hnc42 := NB137_143.out
                              have hcz43 := bc4 BK143.out
                              iterate 2 ((try go_wp2_with (first | (go_at_call 74; (with_reducible refine (strings_HasPrefix.calls (x4_2.extract (((rd_T68 l0_1 x37_2).f0) : Int).toNat x4_2.size) ((rd_T68 l0_1 x37_2).f1) false _ A32.out).mono ?_); rintro e w' ⟨rfl, ⟨nd, rfl⟩⟩; (try first | exact ⟨rfl, _, World.drewN_drewN _ _ _⟩ | exact ⟨rfl, _, Eq.trans (World.drewN_drewN _ _ _) (congrArg (World.drewN _) (Nat.add_assoc _ _ _))⟩)))); (try go_quiet (first | (go_at_call 74; (with_reducible refine (strings_HasPrefix.calls (x4_2.extract (((rd_T68 l0_1 x37_2).f0) : Int).toNat x4_2.size) ((rd_T68 l0_1 x37_2).f1) false _ A32.out).mono ?_); rintro e w' ⟨rfl, ⟨nd, rfl⟩⟩; (try first | exact ⟨rfl, _, World.drewN_drewN _ _ _⟩ | exact ⟨rfl, _, Eq.trans (World.drewN_drewN _ _ _) (congrArg (World.drewN _) (Nat.add_assoc _ _ _))⟩)))))
                              go_meet
                              case rel => exact ⟨_, (true), (by first | rfl | (simp; done) | (simp [*]; done)), H', ⟨by have := HJ1.out; have := HK2.out; first | omega | exact Nat.le_refl _⟩, ⟨by (with_reducible repeat (first | apply Kd.R_alloc | apply Kd.R_drewN | apply Kd.R_drew)); exact Kd.R_mono (Kd.R_far (p := ⟨gb143, 3, none⟩) (Kd.R_far (p := ⟨gb143, 2, none⟩) (Kd.R_far (p := ⟨gb143, 1, none⟩) (Kd.R_far (p := ⟨gb143, 0, none⟩) (Kd.R_types HO_3.out BK143.out (by decide)) (fun _ hk => hk.2) (.int .i64 ((rd_T68 l0_1 x37_2).f0))) (fun _ hk => hk.2) (.string ((rd_T68 l0_1 x37_2).f1))) (fun _ hk => hk.2) (.string ((rd_T68 l0_1 x37_2).f2))) (fun _ hk => hk.2) (.int .i64 ((rd_T68 l0_1 x37_2).f3))) (fun _ hk => trivial)⟩, ⟨i_⟩, ⟨by (with_reducible repeat (first | refine blk_drewN ?_ _ | refine blk_drew ?_ | refine blk_alloc ?_ _)); refine blk_put (cs := #[.int .i64 ((rd_T68 l0_1 x37_2).f0), .string ((rd_T68 l0_1 x37_2).f1), .string ((rd_T68 l0_1 x37_2).f2), .int .i64 0]) ?_ 3 _ rfl; (with_reducible repeat (first | refine blk_drewN ?_ _ | refine blk_drew ?_ | refine blk_alloc ?_ _)); refine blk_put (cs := #[.int .i64 ((rd_T68 l0_1 x37_2).f0), .string ((rd_T68 l0_1 x37_2).f1), .string (⟨#[]⟩ : ByteArray), .int .i64 0]) ?_ 2 _ rfl; (with_reducible repeat (first | refine blk_drewN ?_ _ | refine blk_drew ?_ | refine blk_alloc ?_ _)); refine blk_put (cs := #[.int .i64 ((rd_T68 l0_1 x37_2).f0), .string (⟨#[]⟩ : ByteArray), .string (⟨#[]⟩ : ByteArray), .int .i64 0]) ?_ 1 _ rfl; (with_reducible repeat (first | refine blk_drewN ?_ _ | refine blk_drew ?_ | refine blk_alloc ?_ _)); refine blk_put (cs := #[.int .i64 0, .string (⟨#[]⟩ : ByteArray), .string (⟨#[]⟩ : ByteArray), .int .i64 0]) ?_ 0 _ rfl; (with_reducible repeat (first | refine blk_drewN ?_ _ | refine blk_drew ?_ | refine blk_alloc ?_ _)); exact BK143.out⟩, ⟨i_⟩⟩
                          · rw [if_neg c31] at H
                            exact absurd H (by simp)
                        · rw [if_neg c30] at H
                          exact absurd H (by simp)
                  case rest =>
                    clear HC20
                    (try clear c1); (try clear p1); (try clear q1); (try clear hx1); (try clear c2); (try clear p2); (try clear c3); (try clear c4); (try clear c5); (try clear c7); (try clear c7b0); (try clear c7b1); (try clear c9); (try clear c9b0); (try clear c12); (try clear p14); (try clear q14); (try clear hx14); (try clear c17); (try clear c17b0); (try clear c18); (try clear c18b0); (try clear c19); (try clear c19b0); (try clear c22); (try clear c24); (try clear c24b0); (try clear c25); (try clear c27); (try clear c27b0); (try clear c28); (try clear c30); (try clear c30b0); (try clear c30b1); (try clear c31); (try clear c31b0); (try clear c31b1); (try clear c33); (try clear c34); (try clear c34b0); (try clear c34b1); (try clear c35); (try clear c37); (try clear c37b0); (try clear c38); (try clear c40); (try clear c42); (try clear hcz10); (try clear hcz11); (try clear hcz13); (try clear hcz16); (try clear hcz23); (try clear hcz26); (try clear hcz29); (try clear hcz36); (try clear hcz39); (try clear hcz41); (try clear hcz43); (try clear hcz6); (try clear hcz8); (try clear hx142_0); (try clear hx142_1); (try clear hx142_2); (try clear hx142_3); (try clear p142); (try clear q142)
                    obtain ⟨kq, x77_19, rfl, HA, HJ19, HO_3, BK137, BK143, HB⟩ := hcut
                    cases kq with
                    | zero => exact absurd HA.out (by simp [impl_texts.j2])
                    | succ kj19 =>
                      have H := HA.out
                      clear HA
                      simp only [impl_texts.j2] at H
                      by_cases c44 : x77_19 = true
                      · subst c44
                        have H1 : (some ([] : List ByteArray)) = some r := by rw [if_pos rfl] at H; exact H
                        clear H
                        have H := H1
                        clear H1
                        obtain rfl := Option.some.inj H
                        go_wp2
                        repeat (go_quiet (fail); try go_wp2)
                        go_ret
                        exact ⟨_, by first | rfl | (simp [errW_none, errW_some] <;> rfl) | (simp [*, errW_none, errW_some] <;> rfl), ⟨by first | exact Kd.R_nil _ _ _ _ _ | exact Kd.N_nil _ _ _ _ _ | exact Kd.V_nil _ _ _ _ _ | exact Kd.Q_nil _ _ _ _ _ | exact Kd.S_nil _ _ _ _ _, NilIf.nil⟩, i_⟩
                      · replace c44 := Bool.eq_false_iff.mpr c44
                        subst c44
                        have H1 : ((impl_do.f x4_2 ((rd_T68 l0_1 x37_2).f0) ((rd_T68 l0_1 x37_2).f1) ((rd_T68 l0_1 x37_2).f2) ((rd_T68 l0_1 x37_2).f3)).bind fun t145 => ((impl_long.f t145).bind fun t146 => (if t146 = true then (some ([] : List ByteArray)) else (if x3_2.length < 8796093022208 then (impl_texts.l0 kj19 (x3_2 ++ [t145]) t145 l0_1 (l0_1.length : Int) (wrap64 (x37_2 + 1))) else (none))))) = some r := by rw [if_neg (show ¬ (false = true) by decide)] at H; exact H
                        clear H
                        have H := H1
                        clear H1
                        replace H := Option.bind_eq_some_iff.mp H
                        obtain ⟨t145, A450, H⟩ := H
                        replace H : ((impl_long.f t145).bind fun t146 => (if t146 = true then (some ([] : List ByteArray)) else (if x3_2.length < 8796093022208 then (impl_texts.l0 kj19 (x3_2 ++ [t145]) t145 l0_1 (l0_1.length : Int) (wrap64 (x37_2 + 1))) else (none)))) = some r := H
                        have A45 := am A450
                        clear A450
                        replace H := Option.bind_eq_some_iff.mp H
                        obtain ⟨t146, A460, H⟩ := H
                        replace H : (if t146 = true then (some ([] : List ByteArray)) else (if x3_2.length < 8796093022208 then (impl_texts.l0 kj19 (x3_2 ++ [t145]) t145 l0_1 (l0_1.length : Int) (wrap64 (x37_2 + 1))) else (none))) = some r := H
                        have A46 := am A460
                        clear A460
                        by_cases c47 : t146 = true
                        · subst c47
                          have H1 : (some ([] : List ByteArray)) = some r := by rw [if_pos rfl] at H; exact H
                          clear H
                          have H := H1
                          clear H1
                          obtain rfl := Option.some.inj H
                          have hnb48 := NB143_137.out
                          have hnc48 := NB137_143.out
                          have hcz49 := bc4 BK143.out
                          iterate 2 ((try go_wp2_with (first | (go_at_call 59; (with_reducible refine (impl_do.calls x4_2 ((rd_T68 l0_1 x37_2).f0) ((rd_T68 l0_1 x37_2).f1) ((rd_T68 l0_1 x37_2).f2) ((rd_T68 l0_1 x37_2).f3) t145 _ A45.out).mono ?_); rintro e w50 ⟨rfl, hb⟩; replace HO_3 := am (rB HO_3.out i_ hb); replace BK137 := am (blk_below (g := gb137) (o := .cells #[.string a0_0, .slice (some ad142) l0_1.length c0_1, .int .i64 a0_2] 29 (0, 0)) i_ hb); replace BK143 := am (blk_below (g := gb143) (o := .cells #[.int .i64 ((rd_T68 l0_1 x37_2).f0), .string ((rd_T68 l0_1 x37_2).f1), .string ((rd_T68 l0_1 x37_2).f2), .int .i64 ((rd_T68 l0_1 x37_2).f3)] 68 (0, 0)) i_ hb); replace HB := am (below_step (w := w) i_ hb); (try clear hb); (try clear hb2); (try clear hk); (try clear hi)) | (go_at_call 58; (with_reducible refine (impl_long.calls t145 true _ A46.out).mono ?_); rintro e w' ⟨rfl, ⟨nd, rfl⟩⟩; (try first | exact ⟨rfl, _, World.drewN_drewN _ _ _⟩ | exact ⟨rfl, _, Eq.trans (World.drewN_drewN _ _ _) (congrArg (World.drewN _) (Nat.add_assoc _ _ _))⟩)))); (try go_quiet (first | (go_at_call 59; (with_reducible refine (impl_do.calls x4_2 ((rd_T68 l0_1 x37_2).f0) ((rd_T68 l0_1 x37_2).f1) ((rd_T68 l0_1 x37_2).f2) ((rd_T68 l0_1 x37_2).f3) t145 _ A45.out).mono ?_); rintro e w50 ⟨rfl, hb⟩; replace HO_3 := am (rB HO_3.out i_ hb); replace BK137 := am (blk_below (g := gb137) (o := .cells #[.string a0_0, .slice (some ad142) l0_1.length c0_1, .int .i64 a0_2] 29 (0, 0)) i_ hb); replace BK143 := am (blk_below (g := gb143) (o := .cells #[.int .i64 ((rd_T68 l0_1 x37_2).f0), .string ((rd_T68 l0_1 x37_2).f1), .string ((rd_T68 l0_1 x37_2).f2), .int .i64 ((rd_T68 l0_1 x37_2).f3)] 68 (0, 0)) i_ hb); replace HB := am (below_step (w := w) i_ hb); (try clear hb); (try clear hb2); (try clear hk); (try clear hi)) | (go_at_call 58; (with_reducible refine (impl_long.calls t145 true _ A46.out).mono ?_); rintro e w' ⟨rfl, ⟨nd, rfl⟩⟩; (try first | exact ⟨rfl, _, World.drewN_drewN _ _ _⟩ | exact ⟨rfl, _, Eq.trans (World.drewN_drewN _ _ _) (congrArg (World.drewN _) (Nat.add_assoc _ _ _))⟩)))))
                          go_ret
                          exact ⟨_, by first | rfl | (simp [errW_none, errW_some] <;> rfl) | (simp [*, errW_none, errW_some] <;> rfl), ⟨by first | exact Kd.R_nil _ _ _ _ _ | exact Kd.N_nil _ _ _ _ _ | exact Kd.V_nil _ _ _ _ _ | exact Kd.Q_nil _ _ _ _ _ | exact Kd.S_nil _ _ _ _ _, NilIf.nil⟩, i_⟩
                        · replace c47 := Bool.eq_false_iff.mpr c47
                          subst c47
                          have H1 : (if x3_2.length < 8796093022208 then (impl_texts.l0 kj19 (x3_2 ++ [t145]) t145 l0_1 (l0_1.length : Int) (wrap64 (x37_2 + 1))) else (none)) = some r := by rw [if_neg (show ¬ (false = true) by decide)] at H; exact H
                          clear H
                          have H := H1
                          clear H1
                          by_cases c51 : x3_2.length < 8796093022208
                          · rw [if_pos c51] at H
                            have LMc51 := am c51
                            clear c51
                            obtain ⟨y147, hy147⟩ : ∃ y_ : List ByteArray, y_ = (x3_2 ++ [t145]) := ⟨_, rfl⟩
                            replace H : (impl_texts.l0 kj19 y147 t145 l0_1 (l0_1.length : Int) (wrap64 (x37_2 + 1))) = some r := by first | (rw [hy147]; with_reducible exact H) | (have H2_ := (Option.bind_some _ _).symm.trans H; rw [hy147]; with_reducible exact H2_) | (have H2_ := (Option.bind_some _ _).symm.trans H; with_reducible exact H2_) | with_reducible exact H | (rw [hy147]; exact H) | exact H
                            have Ny147 := am hy147
                            clear hy147
                            have H' := am H
                            clear H
                            have hnb52 := NB143_137.out
                            have hnc52 := NB137_143.out
                            have hcz53 := bc4 BK143.out
                            iterate 2 ((try go_wp2_with (first | (go_at_call 59; (with_reducible refine (impl_do.calls x4_2 ((rd_T68 l0_1 x37_2).f0) ((rd_T68 l0_1 x37_2).f1) ((rd_T68 l0_1 x37_2).f2) ((rd_T68 l0_1 x37_2).f3) t145 _ A45.out).mono ?_); rintro e w54 ⟨rfl, hb⟩; replace HO_3 := am (rB HO_3.out i_ hb); replace BK137 := am (blk_below (g := gb137) (o := .cells #[.string a0_0, .slice (some ad142) l0_1.length c0_1, .int .i64 a0_2] 29 (0, 0)) i_ hb); replace BK143 := am (blk_below (g := gb143) (o := .cells #[.int .i64 ((rd_T68 l0_1 x37_2).f0), .string ((rd_T68 l0_1 x37_2).f1), .string ((rd_T68 l0_1 x37_2).f2), .int .i64 ((rd_T68 l0_1 x37_2).f3)] 68 (0, 0)) i_ hb); replace HB := am (below_step (w := w) i_ hb); (try clear hb); (try clear hb2); (try clear hk); (try clear hi)) | (go_at_call 58; (with_reducible refine (impl_long.calls t145 false _ A46.out).mono ?_); rintro e w' ⟨rfl, ⟨nd, rfl⟩⟩; (try first | exact ⟨rfl, _, World.drewN_drewN _ _ _⟩ | exact ⟨rfl, _, Eq.trans (World.drewN_drewN _ _ _) (congrArg (World.drewN _) (Nat.add_assoc _ _ _))⟩)) | ((with_reducible refine gate_builtin (b := .append) (xs := #[.tmp 83, .tmp 85]) rfl ?_); (try (refine gate_guard (by rfl) ?_; dsimp only)); at_builtin; refine Kd.R_append Kd.string (w0 := w) w.heap.size rfl (.tmp 83) (.tmp 85) 35 9 (.string ⟨#[]⟩) 16 rfl Try.underlying35 info9 rfl (by decide) (by omega) u3 x3_2 t145 [.string t145] (fun _ => True) (fun _ => False) rfl rfl ?aP (fun _ hk => hk.elim) ?aF ?aO ?aB ?aS ?aL ?_; (case aP => exact rfl); (case aB => exact i_); (case aF => exact (fun _ _ => trivial)); (case aO => exact (by (with_reducible repeat (first | apply Kd.R_alloc | apply Kd.R_drewN | apply Kd.R_drew)); exact HO_3.out)); (case aS => exact (below_size (w := w) i_)); (case aL => have := LMc51.out; omega); intro v148 w55 ho hb hg hat; rw [← Ny147.out] at ho; have n0_ := am (blk_grown (g := gb137) (o := .cells #[.string a0_0, .slice (some ad142) l0_1.length c0_1, .int .i64 a0_2] 29 (0, 0)) i_ hg (Kd.R_ne HO_3.out BK137.out (by decide))); have n1_ := am (blk_grown (g := gb143) (o := .cells #[.int .i64 ((rd_T68 l0_1 x37_2).f0), .string ((rd_T68 l0_1 x37_2).f1), .string ((rd_T68 l0_1 x37_2).f2), .int .i64 ((rd_T68 l0_1 x37_2).f3)] 68 (0, 0)) i_ hg (Kd.R_ne HO_3.out BK143.out (by decide))); have n2_ := am (hb); have n3_ := am (ho); clear BK137; clear BK143; clear HB; clear HO_3; have BK137 := n0_; have BK143 := n1_; have HB := n2_; have HO149 := n3_; clear n0_ n1_ n2_ n3_; clear ho hb hg hat))); (try go_quiet (first | (go_at_call 59; (with_reducible refine (impl_do.calls x4_2 ((rd_T68 l0_1 x37_2).f0) ((rd_T68 l0_1 x37_2).f1) ((rd_T68 l0_1 x37_2).f2) ((rd_T68 l0_1 x37_2).f3) t145 _ A45.out).mono ?_); rintro e w54 ⟨rfl, hb⟩; replace HO_3 := am (rB HO_3.out i_ hb); replace BK137 := am (blk_below (g := gb137) (o := .cells #[.string a0_0, .slice (some ad142) l0_1.length c0_1, .int .i64 a0_2] 29 (0, 0)) i_ hb); replace BK143 := am (blk_below (g := gb143) (o := .cells #[.int .i64 ((rd_T68 l0_1 x37_2).f0), .string ((rd_T68 l0_1 x37_2).f1), .string ((rd_T68 l0_1 x37_2).f2), .int .i64 ((rd_T68 l0_1 x37_2).f3)] 68 (0, 0)) i_ hb); replace HB := am (below_step (w := w) i_ hb); (try clear hb); (try clear hb2); (try clear hk); (try clear hi)) | (go_at_call 58; (with_reducible refine (impl_long.calls t145 false _ A46.out).mono ?_); rintro e w' ⟨rfl, ⟨nd, rfl⟩⟩; (try first | exact ⟨rfl, _, World.drewN_drewN _ _ _⟩ | exact ⟨rfl, _, Eq.trans (World.drewN_drewN _ _ _) (congrArg (World.drewN _) (Nat.add_assoc _ _ _))⟩)))))
                            go_roundg kj19
                            case measure => have := HJ1.out; have := HK2.out; have := HJ19.out; omega
                            case rel => exact ⟨(y147), (t145), (wrap64 (x37_2 + 1)), (by first | rfl | (simp; done) | (simp [*]; done)), (by first | rfl | (simp; done) | (simp [*]; done)), H', ⟨by have := HJ1.out; have := HK2.out; have := HJ19.out; omega⟩, ⟨i_⟩, ⟨i_⟩, ⟨i_⟩⟩
                          · rw [if_neg c51] at H
                            exact absurd H (by simp)
                · rw [if_neg c19] at H
                  exact absurd H (by simp)
              · rw [if_neg c18] at H
                exact absurd H (by simp)
            · rw [if_neg c17] at H
              have c17b0 : decide (x37_2 < (l0_1.length : Int)) = false := decide_eq_false c17
              clear c17
              by_cases c56 : 0 < x3_2.length
              · rw [if_pos c56] at H
                have LMc56 := am c56
                clear c56
                obtain rfl := Option.some.inj H
                go_wp2
                repeat (go_quiet (fail); try go_wp2)
                go_ret
                exact ⟨_, by first | rfl | (simp [errW_none, errW_some] <;> rfl) | (simp [*, errW_none, errW_some] <;> rfl), ⟨by (with_reducible repeat (first | apply Kd.R_alloc | apply Kd.R_drewN | apply Kd.R_drew)); exact HO_3.out, NilIf.some_ LMc56.out⟩, i_⟩
              · rw [if_neg c56] at H
                exact absurd H (by simp)

/-! ### impl_HistoryFault: function 15 -/
def impl_HistoryFault.f (k : Nat) (a0_0 : ByteArray) (l0_1 : List (S68)) (a0_2 : Int) : Option (Int) := (impl_texts.f k a0_0 l0_1 a0_2).bind fun t151 => (if (t151.length : Int) = 0 then (some 1) else (some 0))
theorem impl_HistoryFault.mono : ∀ a0 a1 a2 k, LeO (impl_HistoryFault.f k a0 a1 a2) (impl_HistoryFault.f (k + 1) a0 a1 a2) := by
  intro a0 a1 a2 k
  unfold impl_HistoryFault.f
  repeat' first
      | (with_reducible exact impl_texts.mono _ _ _ _)
      | (with_reducible exact LeO.refl _)
      | (with_reducible exact LeO.none _)
      | (with_reducible refine LeO.ite ?_ ?_)
      | (with_reducible refine LeO.bind ?_ (fun _ => ?_))
      | exact impl_texts.mono _ _ _ _
      | exact LeO.none _
      | refine LeO.ite ?_ ?_
      | refine LeO.bind ?_ (fun _ => ?_)
set_option maxHeartbeats 8000000 in
set_option maxRecDepth 100000 in
theorem impl_HistoryFault.calls (k : Nat) (a0_0 : ByteArray) (A0_1 : Option Addr) (c0_1 : Nat) (l0_1 : List (S68)) (a0_2 : Int) (r : Int) (w : World) (hr0_1 : Kd.C k68 w A0_1 l0_1.length l0_1) (hc0_1 : l0_1.length ≤ c0_1) (h : impl_HistoryFault.f k a0_0 l0_1 a0_2 = some r) :
    Calls Try.prog 15 #[.agg #[.string a0_0, .slice A0_1 l0_1.length c0_1, .int .i64 a0_2]] w fun e w' => e = .returned (.int .i64 r) ∧ Below w.heap.size w w' := by
  have hu29 := Try.underlying29
  have hseql35 : ∀ (W : World) (a_ : Option Addr) (n_ c_ : Nat), (binOp .eql 35 (.slice a_ n_ c_) (.slice none 0 0)).run Try.prog W = .ok (.bool (a_.isNone)) W := eql_nil Try.underlying35
  have HR0_1 := am hr0_1
  have HC0_1 := am hc0_1
  clear hr0_1 hc0_1
  have HB := am (Below.refl w.heap.size w)
  have H : ((impl_texts.f k a0_0 l0_1 a0_2).bind fun t151 => (if (t151.length : Int) = 0 then (some 1) else (some 0))) = some r := h
  clear h
  replace H := Option.bind_eq_some_iff.mp H
  obtain ⟨t151, A20, H⟩ := H
  replace H : (if (t151.length : Int) = 0 then (some 1) else (some 0)) = some r := H
  have A2 := am A20
  clear A20
  by_cases c3 : (t151.length : Int) = 0
  · rw [if_pos c3] at H
    have NLc3 := am c3
    clear c3
    obtain rfl := Option.some.inj H
    go_enter Try.func15, Try.ntmps15
    go_wp2_with (first | ((with_reducible refine gate_dst (N := 1) rfl ?_); refine bX (N := 1) (cs := #[.string a0_0, .slice A0_1 l0_1.length c0_1, .int .i64 a0_2]) (t := 29) ?_; intro gb150 hg w4 hbox hb; have BK150 := am (hbox); have GW150 := am ((by rw [hg]; exact (below_size (w := w) i_) : w.heap.size ≤ gb150)); have GE150 := am ((by rw [hg]; exact (below_size (w := w) i_) : w.heap.size ≤ gb150)); replace HB := am (below_step (w := w) i_ hb); clear hb hbox hg; have hcz5 := bc3 BK150.out) | ((with_reducible refine gate_callee (f := 49) rfl ?_); refine gL (some 4) Try.func49 #[.agg #[.string a0_0, .slice A0_1 l0_1.length c0_1, .int .i64 a0_2]] rfl ?_; (with_reducible refine (impl_texts.calls k a0_0 _ _ l0_1 a0_2 t151 _ ?side1 ?side2 A2.out).mono ?_); (case side1 => exact Kd.C_below HR0_1.out i_); (case side2 => exact HC0_1.out); rintro e w6 ⟨v152, rfl, ⟨ho0, hnq0⟩, hb⟩; refine ⟨_, rfl, ?_⟩; have NQv152 := am hnq0; clear hnq0; have HO153 := am (Kd.R_lower ho0 (below_size (w := w) i_)); replace BK150 := am (blk_below (g := gb150) (o := .cells #[.string a0_0, .slice A0_1 l0_1.length c0_1, .int .i64 a0_2] 29 (0, 0)) i_ hb); replace HB := am (below_step (w := w) i_ hb); (try clear hb); (try clear hb2); (try clear hk); (try clear hi); (try clear ho0); obtain ⟨Ao7, co7, eo7⟩ := Kd.R_slice HO153.out; subst eo7; have nq8 : (Ao7 : Option Addr).isNone = true := (by have h_ := NilIf.out NQv152.out (List.eq_nil_of_length_eq_zero (by have := NLc3.out; omega)); injection h_ with h1_ h2_ h3_; first | (rw [h1_]; done) | (rw [h1_]; rfl) | (subst h1_; rfl))))
    go_ret
    exact ⟨by first | rfl | (simp [errW_none, errW_some] <;> rfl) | (simp [*, errW_none, errW_some] <;> rfl), i_⟩
  · rw [if_neg c3] at H
    have NLc3 := am c3
    clear c3
    obtain rfl := Option.some.inj H
    go_enter Try.func15, Try.ntmps15
    go_wp2_with (first | ((with_reducible refine gate_dst (N := 1) rfl ?_); refine bX (N := 1) (cs := #[.string a0_0, .slice A0_1 l0_1.length c0_1, .int .i64 a0_2]) (t := 29) ?_; intro gb150 hg w9 hbox hb; have BK150 := am (hbox); have GW150 := am ((by rw [hg]; exact (below_size (w := w) i_) : w.heap.size ≤ gb150)); have GE150 := am ((by rw [hg]; exact (below_size (w := w) i_) : w.heap.size ≤ gb150)); replace HB := am (below_step (w := w) i_ hb); clear hb hbox hg; have hcz10 := bc3 BK150.out) | ((with_reducible refine gate_callee (f := 49) rfl ?_); refine gL (some 4) Try.func49 #[.agg #[.string a0_0, .slice A0_1 l0_1.length c0_1, .int .i64 a0_2]] rfl ?_; (with_reducible refine (impl_texts.calls k a0_0 _ _ l0_1 a0_2 t151 _ ?side1 ?side2 A2.out).mono ?_); (case side1 => exact Kd.C_below HR0_1.out i_); (case side2 => exact HC0_1.out); rintro e w11 ⟨v152, rfl, ⟨ho0, hnq0⟩, hb⟩; refine ⟨_, rfl, ?_⟩; have NQv152 := am hnq0; clear hnq0; have HO153 := am (Kd.R_lower ho0 (below_size (w := w) i_)); replace BK150 := am (blk_below (g := gb150) (o := .cells #[.string a0_0, .slice A0_1 l0_1.length c0_1, .int .i64 a0_2] 29 (0, 0)) i_ hb); replace HB := am (below_step (w := w) i_ hb); (try clear hb); (try clear hb2); (try clear hk); (try clear hi); (try clear ho0); obtain ⟨Ao12, co12, eo12⟩ := Kd.R_slice HO153.out; subst eo12; have nq13 : (Ao12 : Option Addr).isNone = false := (by obtain ⟨A_, c_, e_, _, hc_⟩ := Kd.R_reads HO153.out; injection e_ with e1_ e2_ e3_; obtain ⟨ad_, e4_, _⟩ := hc_.2.2 (by have := NLc3.out; omega); first | (rw [e1_, e4_]; done) | (rw [e1_, e4_]; rfl) | (subst e1_; subst e4_; rfl))))
    go_ret
    exact ⟨by first | rfl | (simp [errW_none, errW_some] <;> rfl) | (simp [*, errW_none, errW_some] <;> rfl), i_⟩

/-! ### laws_eqStep: function 75 -/
def laws_eqStep.f (a0_0 : Int) (a0_1 : ByteArray) (a0_2 : ByteArray) (a0_3 : Int) (a1_0 : Int) (a1_1 : ByteArray) (a1_2 : ByteArray) (a1_3 : Int) : Option (Bool) := if a0_0 = a1_0 then (if a0_1.toList = a1_1.toList then (if a0_2.toList = a1_2.toList then (if a0_3 = a1_3 then (some true) else (none)) else (none)) else (none)) else (none)
set_option maxHeartbeats 8000000 in
set_option maxRecDepth 100000 in
theorem laws_eqStep.calls (a0_0 : Int) (a0_1 : ByteArray) (a0_2 : ByteArray) (a0_3 : Int) (a1_0 : Int) (a1_1 : ByteArray) (a1_2 : ByteArray) (a1_3 : Int) (r : Bool) (w : World) (h : laws_eqStep.f a0_0 a0_1 a0_2 a0_3 a1_0 a1_1 a1_2 a1_3 = some r) :
    Calls Try.prog 75 #[.agg #[.int .i64 a0_0, .string a0_1, .string a0_2, .int .i64 a0_3], .agg #[.int .i64 a1_0, .string a1_1, .string a1_2, .int .i64 a1_3]] w fun e w' => e = .returned (.bool r) ∧ Below w.heap.size w w' := by
  have hu68 := Try.underlying68
  have HB := am (Below.refl w.heap.size w)
  have H : (if a0_0 = a1_0 then (if a0_1.toList = a1_1.toList then (if a0_2.toList = a1_2.toList then (if a0_3 = a1_3 then (some true) else (none)) else (none)) else (none)) else (none)) = some r := h
  clear h
  by_cases c3 : a0_0 = a1_0
  · rw [if_pos c3] at H
    have c3b0 : (a0_0 == a1_0) = true := beq_iff_eq.mpr c3
    have c3b1 : (a0_0 != a1_0) = false := bne_eq_false_iff_eq.mpr c3
    clear c3
    by_cases c4 : a0_1.toList = a1_1.toList
    · rw [if_pos c4] at H
      have c4b0 : (a0_1.toList == a1_1.toList) = true := beq_iff_eq.mpr c4
      have c4b1 : (a0_1.toList != a1_1.toList) = false := bne_eq_false_iff_eq.mpr c4
      clear c4
      by_cases c5 : a0_2.toList = a1_2.toList
      · rw [if_pos c5] at H
        have c5b0 : (a0_2.toList == a1_2.toList) = true := beq_iff_eq.mpr c5
        have c5b1 : (a0_2.toList != a1_2.toList) = false := bne_eq_false_iff_eq.mpr c5
        clear c5
        by_cases c6 : a0_3 = a1_3
        · rw [if_pos c6] at H
          have c6b0 : (a0_3 == a1_3) = true := beq_iff_eq.mpr c6
          have c6b1 : (a0_3 != a1_3) = false := bne_eq_false_iff_eq.mpr c6
          clear c6
          obtain rfl := Option.some.inj H
          go_enter Try.func75, Try.ntmps75
          go_wp2_with (first | ((with_reducible refine gate_dst (N := 2) rfl ?_); refine bX (N := 2) (cs := #[.int .i64 a0_0, .string a0_1, .string a0_2, .int .i64 a0_3]) (t := 68) ?_; intro gb154 hg w7 hbox hb; have BK154 := am (hbox); have GW154 := am ((by rw [hg]; exact (below_size (w := w) i_) : w.heap.size ≤ gb154)); have GE154 := am ((by rw [hg]; exact (below_size (w := w) i_) : w.heap.size ≤ gb154)); replace HB := am (below_step (w := w) i_ hb); clear hb hbox hg) | ((with_reducible refine gate_dst (N := 3) rfl ?_); refine bX (N := 3) (cs := #[.int .i64 a1_0, .string a1_1, .string a1_2, .int .i64 a1_3]) (t := 68) ?_; intro gb155 hg w8 hbox hb; have BK155 := am (hbox); have GW155 := am ((by rw [hg]; exact (below_size (w := w) i_) : w.heap.size ≤ gb155)); have GE155 := am ((by rw [hg]; exact (below_size (w := w) i_) : w.heap.size ≤ gb155)); have NB154_155 := am ((by rw [hg]; exact Nat.ne_of_lt (blk_lt (g := gb154) (o := .cells #[.int .i64 a0_0, .string a0_1, .string a0_2, .int .i64 a0_3] 68 (0, 0)) i_) : gb154 ≠ gb155)); have NB155_154 := am ((by rw [hg]; exact Nat.ne_of_gt (blk_lt (g := gb154) (o := .cells #[.int .i64 a0_0, .string a0_1, .string a0_2, .int .i64 a0_3] 68 (0, 0)) i_) : gb155 ≠ gb154)); replace BK154 := am (blk_below (g := gb154) (o := .cells #[.int .i64 a0_0, .string a0_1, .string a0_2, .int .i64 a0_3] 68 (0, 0)) i_ hb); replace HB := am (below_step (w := w) i_ hb); clear hb hbox hg; have hnb9 := NB154_155.out; have hnc9 := NB155_154.out; have hcz10 := bc4 BK154.out; have hcz11 := bc4 BK155.out))
          go_ret
          exact ⟨by first | rfl | (simp [errW_none, errW_some] <;> rfl) | (simp [*, errW_none, errW_some] <;> rfl), i_⟩
        · rw [if_neg c6] at H
          exact absurd H (by simp)
      · rw [if_neg c5] at H
        exact absurd H (by simp)
    · rw [if_neg c4] at H
      exact absurd H (by simp)
  · rw [if_neg c3] at H
    exact absurd H (by simp)

end Go.Proofs.Ytopbiepiceajnaa.Q
