-- Written by xprint.py (wip/ of this repository): one Lean function and its proof for each Go function.
import Derived.Test.YtopbiepiceajnaaHx0
import Derived.Test.YtopbiepiceajnaaHx2
import Derived.Test.YtopbiepiceajnaaHx3
namespace Go.Proofs.Ytopbiepiceajnaa.H
open Go.RowKit Go.Proofs.YtopbiepiceajnaaW.PrintWords Go.Proofs.YtopbiepiceajnaaW.PrintLast Go.Proofs.YtopbiepiceajnaaW.PrintMore
attribute [local go_sem] max2_int min2_int max_two min_two max_three min_three max_four min_four   -- for this text's walks alone
set_option linter.unusedVariables false
set_option linter.unusedSimpArgs false

/-! ### impl_readHyphens: function 52 -/
mutual
def impl_readHyphens.l0 : Nat → ByteArray → Bool → Int → Int → ByteArray → List Int → Option (ByteArray × List Int × Bool)
  | 0, _, _, _, _, _, _ => none
  | k + 1, x0, x5, x12, x13, x149000, x149001 => if x13 < x12 then (if 0 ≤ x13 then (if x13 < (x0.size : Int) then (if (bt x0 x13) ≥ 49 then (impl_readHyphens.j1 k x0 x5 (bt x0 x13) x12 x13 (decide ((bt x0 x13) ≤ 57)) x149000 x149001) else (impl_readHyphens.j1 k x0 x5 (bt x0 x13) x12 x13 false x149000 x149001)) else (none)) else (none)) else (if (x149000.size : Int) < 1 then (some (x149000, x149001, false)) else (if (x149000.size : Int) > 20 then (some (x149000, x149001, false)) else (if x5 = true then (if (x149000.size : Int) > 2 then (if 1 ≤ (wrap64 ((x149000.size : Int) - 1)) then (if (wrap64 ((x149000.size : Int) - 1)) ≤ (x149000.size : Int) then ((strings_Contains.f (x149000.extract 1 ((wrap64 ((x149000.size : Int) - 1)) : Int).toNat) (⟨#[46]⟩ : ByteArray)).bind fun t149 => (if t149 = true then (some (x149000, x149001, false)) else (some (x149000, x149001, true)))) else (none)) else (none)) else (some (x149000, x149001, true))) else (some (x149000, x149001, false)))))
def impl_readHyphens.j1 : Nat → ByteArray → Bool → Int → Int → Int → Bool → ByteArray → List Int → Option (ByteArray × List Int × Bool)
  | 0, _, _, _, _, _, _, _, _ => none
  | k + 1, x0, x5, x7, x12, x13, x20, x149000, x149001 => if x20 = true then (if 0 ≤ (wrap64 ((x149001.length : Int) - 1)) then (if (wrap64 ((x149001.length : Int) - 1)) < (x149001.length : Int) then (if (rd x149001 (wrap64 ((x149001.length : Int) - 1))) = 0 then (impl_readHyphens.l0 k x0 true x12 (wrap64 (x13 + 1)) x149000 (x149001.set ((wrap64 ((x149001.length : Int) - 1)) : Int).toNat ((x7 - 48) % 256))) else (some (x149000, x149001, false))) else (none)) else (none)) else ((impl_letterAZ.f x7).bind fun t152 => (if t152 = true then (if x149000.size + (Utf8.encode x7).size ≤ 9223372036854775807 then (if x149001.length < 17592186044416 then (impl_readHyphens.l0 k x0 x5 x12 (wrap64 (x13 + 1)) (x149000 ++ (Utf8.encode x7)) (x149001 ++ [0])) else (none)) else (none)) else (if x7 = 46 then (if x149000.size + (Utf8.encode x7).size ≤ 9223372036854775807 then (if x149001.length < 17592186044416 then (impl_readHyphens.l0 k x0 x5 x12 (wrap64 (x13 + 1)) (x149000 ++ (Utf8.encode x7)) (x149001 ++ [0])) else (none)) else (none)) else (some (x149000, x149001, false)))))
end
def impl_readHyphens.f (k : Nat) (a0 : ByteArray) : Option (ByteArray × List Int × Bool) := impl_readHyphens.l0 k a0 false (a0.size : Int) 0 (⟨#[]⟩ : ByteArray) (([0] : List Int))
theorem impl_readHyphens.mono_l : ∀ k, (∀ y0 y1 y2 y3 y4 y5, LeO (impl_readHyphens.l0 k y0 y1 y2 y3 y4 y5) (impl_readHyphens.l0 (k + 1) y0 y1 y2 y3 y4 y5)) ∧ (∀ y0 y1 y2 y3 y4 y5 y6 y7, LeO (impl_readHyphens.j1 k y0 y1 y2 y3 y4 y5 y6 y7) (impl_readHyphens.j1 (k + 1) y0 y1 y2 y3 y4 y5 y6 y7))
  | 0 => ⟨fun _ _ _ _ _ _ r h => by simp [impl_readHyphens.l0] at h, fun _ _ _ _ _ _ _ _ r h => by simp [impl_readHyphens.j1] at h⟩
  | k + 1 => by
    obtain ⟨ih0, ih1⟩ := impl_readHyphens.mono_l k
    refine ⟨?_, ?_⟩
    · intro y0 y1 y2 y3 y4 y5
      unfold impl_readHyphens.l0
      repeat' first
      | (with_reducible exact ih0 _ _ _ _ _ _)
      | (with_reducible exact ih1 _ _ _ _ _ _ _ _)
      | (with_reducible exact LeO.refl _)
      | (with_reducible exact LeO.none _)
      | (with_reducible refine LeO.ite ?_ ?_)
      | (with_reducible refine LeO.bind ?_ (fun _ => ?_))
      | exact ih0 _ _ _ _ _ _
      | exact ih1 _ _ _ _ _ _ _ _
      | exact LeO.none _
      | refine LeO.ite ?_ ?_
      | refine LeO.bind ?_ (fun _ => ?_)
    · intro y0 y1 y2 y3 y4 y5 y6 y7
      unfold impl_readHyphens.j1
      repeat' first
      | (with_reducible exact ih0 _ _ _ _ _ _)
      | (with_reducible exact ih1 _ _ _ _ _ _ _ _)
      | (with_reducible exact LeO.refl _)
      | (with_reducible exact LeO.none _)
      | (with_reducible refine LeO.ite ?_ ?_)
      | (with_reducible refine LeO.bind ?_ (fun _ => ?_))
      | exact ih0 _ _ _ _ _ _
      | exact ih1 _ _ _ _ _ _ _ _
      | exact LeO.none _
      | refine LeO.ite ?_ ?_
      | refine LeO.bind ?_ (fun _ => ?_)
theorem impl_readHyphens.mono : ∀ a0 k, LeO (impl_readHyphens.f k a0) (impl_readHyphens.f (k + 1) a0) := by
  intro a0 k
  obtain ⟨ih0, ih1⟩ := impl_readHyphens.mono_l k
  unfold impl_readHyphens.f
  repeat' first
      | (with_reducible exact ih0 _ _ _ _ _ _)
      | (with_reducible exact ih1 _ _ _ _ _ _ _ _)
      | (with_reducible exact LeO.refl _)
      | (with_reducible exact LeO.none _)
      | (with_reducible refine LeO.ite ?_ ?_)
      | (with_reducible refine LeO.bind ?_ (fun _ => ?_))
      | exact ih0 _ _ _ _ _ _
      | exact ih1 _ _ _ _ _ _ _ _
      | exact LeO.none _
      | refine LeO.ite ?_ ?_
      | refine LeO.bind ?_ (fun _ => ?_)
set_option maxHeartbeats 8000000 in
set_option maxRecDepth 100000 in
theorem impl_readHyphens.calls (k : Nat) (a0 : ByteArray) (r1 : ByteArray) (r2 : List Int) (r3 : Bool) (w : World) (h : impl_readHyphens.f k a0 = some (r1, r2, r3)) :
    Calls Try.prog 52 #[.string a0] w fun e w' => ∃ v1_ : Value, e = .returned (.tuple #[.agg #[.string r1, v1_], .bool r3]) ∧ Kd.R (Kd.int .i64) 3 w' w.heap.size (fun _ => True) v1_ r2 ∧ Below w.heap.size w w' := by
  have hu78 := Try.underlying78
  have hcv5_9 : ∀ (W : World) (n_ : Int), (convert 5 9 (.int .u8 n_)).run Try.prog W = .ok (.string (Utf8.encode n_)) W := fun W n_ => run_convert_int_string W 5 9 _ n_ (by rw [Try.underlying5]; rfl) Try.underlying9
  have HB := am (Below.refl w.heap.size w)
  have H : (impl_readHyphens.l0 k a0 false (a0.size : Int) 0 (⟨#[]⟩ : ByteArray) (([0] : List Int))) = some (r1, r2, r3) := h
  clear h
  obtain ⟨y145, hy145⟩ : ∃ y_ : List Int, y_ = (([0] : List Int)) := ⟨_, rfl⟩
  replace H : (impl_readHyphens.l0 k a0 false (a0.size : Int) 0 (⟨#[]⟩ : ByteArray) y145) = some (r1, r2, r3) := by first | (rw [hy145]; with_reducible exact H) | (have H2_ := (Option.bind_some _ _).symm.trans H; rw [hy145]; with_reducible exact H2_) | (have H2_ := (Option.bind_some _ _).symm.trans H; with_reducible exact H2_) | with_reducible exact H | (rw [hy145]; exact H) | exact H
  have Ny145 := am hy145
  clear hy145
  have H' := am H
  clear H
  go_enter Try.func52, Try.ntmps52
  go_wp2_with (first | ((with_reducible refine gate_dst (N := 2) rfl ?_); refine bX (N := 2) (cs := #[.string (⟨#[]⟩ : ByteArray), .slice none 0 0]) (t := 78) ?_; intro gb144 hg w2 hbox hb; have BK144 := am (hbox); have GW144 := am ((by rw [hg]; exact (below_size (w := w) i_) : w.heap.size ≤ gb144)); have GE144 := am ((by rw [hg]; exact (below_size (w := w) i_) : w.heap.size ≤ gb144)); replace HB := am (below_step (w := w) i_ hb); clear hb hbox hg) | ((with_reducible refine gate_dst (N := 9) rfl ?_); refine Kd.R_lit (Kd.int .i64) _ 3 ?hg (N := 9) ?hd (xs := ([0] : List Int)) (inner := [.int .i64 0]) (ok := fun _ => True) (okp := fun _ => True) ?hr ?hp (fun _ hk => hk) trivial (Below.refl _ _) (Nat.le_refl _) (by simp) ?_; (case hd => rfl); (case hg => rfl); (case hr => first | (go_simp; done) | (go_simp; rfl)); (case hp => exact (Reps.one (show Kd.M (Kd.int .i64) _ _ _ 0 [.int .i64 0] from rfl) (Reps.none _ _))); intro v146 w3 ho4 hb hg_ hnew_; clear hg_ hnew_; (first | rw [← Ny145.out] at ho4 | (simp only [Int.reduceToNat] at ho4; rw [← Ny145.out] at ho4)); have HO147 := am (Kd.R_lower ho4 (below_size (w := w) i_)); replace BK144 := am (blk_below (g := gb144) (o := .cells #[.string (⟨#[]⟩ : ByteArray), .slice none 0 0] 78 (0, 0)) i_ hb); replace HB := am (below_step (w := w) i_ hb); clear hb ho4; obtain ⟨Ao5, co5, eo5⟩ := Kd.R_slice HO147.out; subst eo5) | ((with_reducible refine gate_dst (N := 4) rfl ?_); refine bX (N := 4) (cs := #[.string (⟨#[]⟩ : ByteArray), .slice none 0 0]) (t := 78) ?_; intro gb148 hg w6 hbox hb; have BK148 := am (hbox); have GW148 := am ((by rw [hg]; exact (below_size (w := w) i_) : w.heap.size ≤ gb148)); have GE148 := am ((by rw [hg]; exact (below_size (w := w) i_) : w.heap.size ≤ gb148)); have NB144_148 := am ((by rw [hg]; exact Nat.ne_of_lt (blk_lt (g := gb144) (o := .cells #[.string (⟨#[]⟩ : ByteArray), .slice none 0 0] 78 (0, 0)) i_) : gb144 ≠ gb148)); have NB148_144 := am ((by rw [hg]; exact Nat.ne_of_gt (blk_lt (g := gb144) (o := .cells #[.string (⟨#[]⟩ : ByteArray), .slice none 0 0] 78 (0, 0)) i_) : gb148 ≠ gb144)); replace HO147 := am (rB HO147.out i_ hb); replace BK144 := am (blk_below (g := gb144) (o := .cells #[.string (⟨#[]⟩ : ByteArray), .slice none 0 0] 78 (0, 0)) i_ hb); replace HB := am (below_step (w := w) i_ hb); clear hb hbox hg; have hnb7 := NB148_144.out; have hnc7 := NB144_148.out; have hcz8 := bc2 BK148.out))
  go_loopg [5, 13] k (fun kq v5 v13 w' => ∃ (x5_1 : Bool) (x13_1 : Int) (x145000_1 : ByteArray) (x149000_1 : ByteArray) (x149001_1 : List Int) (u149001 : Value), v5 = .bool x5_1 ∧ v13 = .int .i64 x13_1 ∧ Fc (impl_readHyphens.l0 kq a0 x5_1 (a0.size : Int) x13_1 x149000_1 x149001_1 = some (r1, r2, r3)) ∧ Fc (kq ≤ k) ∧ Fc (Kd.R (Kd.int .i64) 3 w' w.heap.size (fun _ => True) u149001 x149001_1) ∧ Fc (w'.heap[gb144]? = some (.cells #[.string x145000_1, (.slice none 0 0)] 78 (0, 0))) ∧ Fc (w'.heap[gb148]? = some (.cells #[.string x149000_1, u149001] 78 (0, 0))) ∧ Fc (Below w.heap.size w w'))
  case atStart => exact ⟨(false), (0), ((⟨#[]⟩ : ByteArray)), ((⟨#[]⟩ : ByteArray)), (y145), (.slice Ao5 y145.length co5), (by first | rfl | (simp; done) | (simp [*]; done)), (by first | rfl | (simp; done) | (simp [*]; done)), H', ⟨Nat.le_refl _⟩, ⟨by (with_reducible repeat (first | apply Kd.R_alloc | apply Kd.R_drewN | apply Kd.R_drew)); exact Kd.R_mono (Kd.R_far (p := ⟨gb148, 1, none⟩) (Kd.R_far (p := ⟨gb148, 0, none⟩) (Kd.R_types HO147.out BK148.out (by decide)) (fun _ hk => hk.2) (.string (⟨#[]⟩ : ByteArray))) (fun _ hk => hk.2) (.slice Ao5 y145.length co5)) (fun _ hk => trivial)⟩, ⟨i_⟩, ⟨by (with_reducible repeat (first | refine blk_drewN ?_ _ | refine blk_drew ?_ | refine blk_alloc ?_ _)); refine blk_put (cs := #[.string (⟨#[]⟩ : ByteArray), .slice none 0 0]) ?_ 1 _ rfl; (with_reducible repeat (first | refine blk_drewN ?_ _ | refine blk_drew ?_ | refine blk_alloc ?_ _)); refine blk_put (cs := #[.string (⟨#[]⟩ : ByteArray), .slice none 0 0]) ?_ 0 _ rfl; (with_reducible repeat (first | refine blk_drewN ?_ _ | refine blk_drew ?_ | refine blk_alloc ?_ _)); exact BK148.out⟩, ⟨i_⟩⟩
  case round =>
    clear H'
    (try clear p2); (try clear c5); (try clear c7); (try clear hcz8)
    obtain ⟨x5_1, x13_1, x145000_1, x149000_1, x149001_1, u149001, rfl, rfl, HA, HK1, HO_149001, BK144, BK148, HB⟩ := hrel
    cases gk with
    | zero => exact absurd HA.out (by simp [impl_readHyphens.l0])
    | succ k1 =>
      have H := HA.out
      clear HA
      simp only [impl_readHyphens.l0] at H
      by_cases c9 : x13_1 < (a0.size : Int)
      · rw [if_pos c9] at H
        have c9b0 : decide (x13_1 < (a0.size : Int)) = true := decide_eq_true c9
        clear c9
        by_cases c10 : 0 ≤ x13_1
        · rw [if_pos c10] at H
          have c10b0 : decide (0 ≤ x13_1) = true := decide_eq_true c10
          clear c10
          by_cases c11 : x13_1 < (a0.size : Int)
          · rw [if_pos c11] at H
            have c11b0 : decide (x13_1 < (a0.size : Int)) = true := decide_eq_true c11
            clear c11
            have HC13 := am H
            clear H
            have p12 : 0 ≤ (x13_1 : Int) := of_decide_eq_true (by first | (with_reducible assumption) | assumption)
            have q12 : x13_1 < (a0.size : Int) := of_decide_eq_true (by first | (with_reducible assumption) | assumption)
            have hx12 := bt_at a0 x13_1
            replace p12 := eq_true p12
            replace q12 := eq_true q12
            go_upto_region 8 with (fail)
            go_cut [20] (fun v20 wc => ∃ (kq : Nat) (x20_12 : Bool), v20 = .bool x20_12 ∧ Fc (impl_readHyphens.j1 kq a0 x5_1 (bt a0 x13_1) (a0.size : Int) x13_1 x20_12 x149000_1 x149001_1 = some (r1, r2, r3)) ∧ Fc (kq ≤ k1) ∧ Fc (Kd.R (Kd.int .i64) 3 wc w.heap.size (fun _ => True) u149001 x149001_1) ∧ Fc (wc.heap[gb144]? = some (.cells #[.string x145000_1, (.slice none 0 0)] 78 (0, 0))) ∧ Fc (wc.heap[gb148]? = some (.cells #[.string x149000_1, u149001] 78 (0, 0))) ∧ Fc (Below w.heap.size w wc))
            case first =>
              have H := HC13.out
              clear HC13
              by_cases c14 : (bt a0 x13_1) ≥ 49
              · rw [if_pos c14] at H
                have c14b0 : decide (49 ≤ (bt a0 x13_1)) = true := decide_eq_true c14
                clear c14
                (first | rw [c14b0] | (simp only [i64_w, i32_w]; rw [c14b0]) | skip)
                have H' := am H
                clear H
                go_wp2
                go_meet
                case rel => exact ⟨_, (decide ((bt a0 x13_1) ≤ 57)), (by first | rfl | (simp; done) | (simp [*]; done)), H', ⟨by have := HK1.out; first | omega | exact Nat.le_refl _⟩, ⟨i_⟩, ⟨i_⟩, ⟨i_⟩, ⟨i_⟩⟩
              · rw [if_neg c14] at H
                have c14b0 : decide (49 ≤ (bt a0 x13_1)) = false := decide_eq_false c14
                clear c14
                (first | rw [c14b0] | (simp only [i64_w, i32_w]; rw [c14b0]) | skip)
                have H' := am H
                clear H
                go_wp2
                go_meet
                case rel => exact ⟨_, (false), (by first | rfl | (simp; done) | (simp [*]; done)), H', ⟨by have := HK1.out; first | omega | exact Nat.le_refl _⟩, ⟨i_⟩, ⟨i_⟩, ⟨i_⟩, ⟨i_⟩⟩
            case rest =>
              clear HC13
              (try clear c1); (try clear p1); (try clear q1); (try clear hx1); (try clear p2); (try clear c5); (try clear c7); (try clear c9); (try clear c9b0); (try clear c10); (try clear c10b0); (try clear c11); (try clear c11b0); (try clear p12); (try clear q12); (try clear hx12); (try clear c14); (try clear c14b0); (try clear hcz8)
              obtain ⟨kq, x20_12, rfl, HA, HJ12, HO_149001, BK144, BK148, HB⟩ := hcut
              cases kq with
              | zero => exact absurd HA.out (by simp [impl_readHyphens.j1])
              | succ kj12 =>
                have H := HA.out
                clear HA
                simp only [impl_readHyphens.j1] at H
                by_cases c15 : x20_12 = true
                · subst c15
                  have H1 : (if 0 ≤ (wrap64 ((x149001_1.length : Int) - 1)) then (if (wrap64 ((x149001_1.length : Int) - 1)) < (x149001_1.length : Int) then (if (rd x149001_1 (wrap64 ((x149001_1.length : Int) - 1))) = 0 then (impl_readHyphens.l0 kj12 a0 true (a0.size : Int) (wrap64 (x13_1 + 1)) x149000_1 (x149001_1.set ((wrap64 ((x149001_1.length : Int) - 1)) : Int).toNat (((bt a0 x13_1) - 48) % 256))) else (some (x149000_1, x149001_1, false))) else (none)) else (none)) = some (r1, r2, r3) := by rw [if_pos rfl] at H; exact H
                  clear H
                  have H := H1
                  clear H1
                  obtain ⟨ji16, hji16⟩ : ∃ j_ : Int, (wrap64 ((x149001_1.length : Int) - 1)) = j_ := ⟨_, rfl⟩
                  replace H : (if 0 ≤ (ji16) then (if (ji16) < (x149001_1.length : Int) then (if (rd x149001_1 (ji16)) = 0 then (impl_readHyphens.l0 kj12 a0 true (a0.size : Int) (wrap64 (x13_1 + 1)) x149000_1 (x149001_1.set ((ji16) : Int).toNat (((bt a0 x13_1) - 48) % 256))) else (some (x149000_1, x149001_1, false))) else (none)) else (none)) = some (r1, r2, r3) := by first | (rw [hji16] at H; exact H) | (simp only [hji16] at H ⊢; exact H)
                  have hji16w : (IntKind.i64.wrap ((x149001_1.length : Int) - 1)) = ji16 := (i64_w _).trans hji16
                  by_cases c17 : 0 ≤ (ji16)
                  · rw [if_pos c17] at H
                    have c17b0 : decide (0 ≤ (ji16)) = true := decide_eq_true c17
                    clear c17
                    by_cases c18 : (ji16) < (x149001_1.length : Int)
                    · rw [if_pos c18] at H
                      have c18b0 : decide ((ji16) < (x149001_1.length : Int)) = true := decide_eq_true c18
                      clear c18
                      by_cases c19 : (rd x149001_1 (ji16)) = 0
                      · rw [if_pos c19] at H
                        have c19b0 : ((rd x149001_1 (ji16)) == 0) = true := beq_iff_eq.mpr c19
                        have c19b1 : ((rd x149001_1 (ji16)) != 0) = false := bne_eq_false_iff_eq.mpr c19
                        clear c19
                        obtain ⟨y151, hy151⟩ : ∃ y_ : List Int, y_ = (x149001_1.set ((ji16) : Int).toNat (((bt a0 x13_1) - 48) % 256)) := ⟨_, rfl⟩
                        replace H : (impl_readHyphens.l0 kj12 a0 true (a0.size : Int) (wrap64 (x13_1 + 1)) x149000_1 y151) = some (r1, r2, r3) := by first | (rw [hy151]; with_reducible exact H) | (have H2_ := (Option.bind_some _ _).symm.trans H; rw [hy151]; with_reducible exact H2_) | (have H2_ := (Option.bind_some _ _).symm.trans H; with_reducible exact H2_) | with_reducible exact H | (rw [hy151]; exact H) | exact H
                        have Ny151 := am hy151
                        clear hy151
                        have H' := am H
                        clear H
                        have hnb21 := NB148_144.out
                        have hnc21 := NB144_148.out
                        have hcz22 := bc2 BK148.out
                        obtain ⟨Ao23, co23, eo23⟩ := Kd.R_slice HO_149001.out
                        subst eo23
                        have p150 : 0 ≤ ((ji16) : Int) := of_decide_eq_true (by first | (with_reducible assumption) | assumption)
                        have q150 : (ji16) < (x149001_1.length : Int) := of_decide_eq_true (by first | (with_reducible assumption) | assumption)
                        obtain ⟨ad150, e150, hx150_0⟩ := Kd.at_int (Kd.R_reads' HO_149001.out).2.2 (ji16) p150 q150
                        cases e150
                        replace p150 := eq_true p150
                        replace q150 := eq_true q150
                        have p20 : 0 ≤ ((ji16) : Int) := of_decide_eq_true (by first | (with_reducible assumption) | assumption)
                        have q20 : ((ji16) : Int) < ((x149001_1.length : Int) : Int) := of_decide_eq_true (by first | (with_reducible assumption) | assumption)
                        obtain ⟨go20, co20, eo20, gb20, gl20, cl20, HG20⟩ := Kd.R_form HO_149001.out (by omega)
                        (first | cases eo20 | (injection eo20 with ea_ en_ ec_; (first | subst ea_ | (injection ea_ with ea_; subst ea_)); subst ec_; clear en_))
                        have GB20 := am gb20
                        have GG20 := am HG20
                        clear gb20 gl20 HG20
                        (first | simp only [add_plain] at hx150_0 | skip)
                        obtain ⟨hx20_0, hf20_0⟩ := Kd.R_celln 0 HO_149001.out ((ji16) : Int) p20 q20
                        replace p20 := eq_true p20
                        replace q20 := eq_true q20
                        have HP24 := Kd.R_putg HO_149001.out ((ji16) : Int) (((bt a0 x13_1) - 48) % 256)
                        go_wp2_with (first | ((with_reducible refine gate_store (t := 3) (p := 46) rfl ?_); refine store_event (t := 3) (p := 46) (v := ?vo_w25) (w1 := (wc.setCell ⟨go20, ((ji16) : Int).toNat, none⟩ (.int .i64 (((bt a0 x13_1) - 48) % 256)))) ?hg ?ho ?hn ?hr ?_; (case ho => rfl); (case hg => rfl); (case hn => rfl); (case hr => first | (go_simp; done) | (go_simp; rfl)); intro w25 hw; have hg : wc.grownBy w25 (some go20) := (by rw [hw]; exact HP24.2); have hp_ : Kd.R (Kd.int .i64) 3 w25 w.heap.size (fun _ => True) (.slice (some ⟨go20, 0, none⟩) x149001_1.length co23) y151 := (by rw [hw, Ny151.out]; exact HP24.1); clear HP24; replace BK144 := am (blk_grown (g := gb144) (o := .cells #[.string x145000_1, .slice none 0 0] 78 (0, 0)) i_ hg (Kd.R_ne HO_149001.out BK144.out (by decide))); replace BK148 := am (blk_grown (g := gb148) (o := .cells #[.string x149000_1, .slice (some ⟨go20, 0, none⟩) x149001_1.length co23] 78 (0, 0)) i_ hg (Kd.R_ne HO_149001.out BK148.out (by decide))); replace HO_149001 := am (hp_); replace HB := am ((by rw [hw]; exact below_set (HB.out) GB20.out : Below w.heap.size w w25)); clear hg hw hp_))
                        go_roundg kj12
                        case measure => have := HK1.out; have := HJ12.out; omega
                        case rel => exact ⟨(true), (wrap64 (x13_1 + 1)), (x145000_1), (x149000_1), (y151), (.slice (some ⟨go20, 0, none⟩) x149001_1.length co23), (by first | rfl | (simp; done) | (simp [*]; done)), (by first | rfl | (simp; done) | (simp [*]; done)), H', ⟨by have := HK1.out; have := HJ12.out; omega⟩, ⟨i_⟩, ⟨i_⟩, ⟨i_⟩, ⟨i_⟩⟩
                      · rw [if_neg c19] at H
                        have c19b0 : ((rd x149001_1 (ji16)) == 0) = false := beq_eq_false_iff_ne.mpr c19
                        have c19b1 : ((rd x149001_1 (ji16)) != 0) = true := bne_iff_ne.mpr c19
                        simp only [Option.some.injEq, Prod.mk.injEq] at H
                        obtain ⟨rfl, rfl, rfl⟩ := H
                        have hnb26 := NB148_144.out
                        have hnc26 := NB144_148.out
                        have hcz27 := bc2 BK148.out
                        obtain ⟨Ao28, co28, eo28⟩ := Kd.R_slice HO_149001.out
                        subst eo28
                        have p150 : 0 ≤ ((ji16) : Int) := of_decide_eq_true (by first | (with_reducible assumption) | assumption)
                        have q150 : (ji16) < (x149001_1.length : Int) := of_decide_eq_true (by first | (with_reducible assumption) | assumption)
                        obtain ⟨ad150, e150, hx150_0⟩ := Kd.at_int (Kd.R_reads' HO_149001.out).2.2 (ji16) p150 q150
                        cases e150
                        replace p150 := eq_true p150
                        replace q150 := eq_true q150
                        have hcz29 := bc2 BK144.out
                        go_wp2
                        refine bodyPost_ret (results_ct rfl _ _ gb144 78 #[.string x149000_1, .slice (some ad150) x149001_1.length co28] (0, 0) _ rfl (by (with_reducible repeat (first | refine blk_drewN ?_ _ | refine blk_drew ?_ | refine blk_alloc ?_ _)); refine blk_put (cs := #[.string x149000_1, .slice none 0 0]) ?_ 1 _ rfl; (with_reducible repeat (first | refine blk_drewN ?_ _ | refine blk_drew ?_ | refine blk_alloc ?_ _)); refine blk_put (cs := #[.string x145000_1, .slice none 0 0]) ?_ 0 _ rfl; (with_reducible repeat (first | refine blk_drewN ?_ _ | refine blk_drew ?_ | refine blk_alloc ?_ _)); exact BK144.out) Try.underlying78 rfl (by kernel_rfl)) rfl ?_
                        exact ⟨_, by first | rfl | (simp [errW_none, errW_some] <;> rfl) | (simp only [← hji16]; first | rfl | (simp [errW_none, errW_some] <;> rfl)) | (simp [*, errW_none, errW_some] <;> rfl), by (with_reducible repeat (first | apply Kd.R_alloc | apply Kd.R_drewN | apply Kd.R_drew)); exact Kd.R_mono (Kd.R_far (p := ⟨gb144, 1, none⟩) (Kd.R_far (p := ⟨gb144, 0, none⟩) (Kd.R_types HO_149001.out BK144.out (by decide)) (fun _ hk => hk.2) (.string x149000_1)) (fun _ hk => hk.2) (.slice (some ad150) x149001_1.length co28)) (fun _ hk => trivial), i_⟩
                    · rw [if_neg c18] at H
                      exact absurd H (by simp)
                  · rw [if_neg c17] at H
                    exact absurd H (by simp)
                · replace c15 := Bool.eq_false_iff.mpr c15
                  subst c15
                  have H1 : ((impl_letterAZ.f (bt a0 x13_1)).bind fun t152 => (if t152 = true then (if x149000_1.size + (Utf8.encode (bt a0 x13_1)).size ≤ 9223372036854775807 then (if x149001_1.length < 17592186044416 then (impl_readHyphens.l0 kj12 a0 x5_1 (a0.size : Int) (wrap64 (x13_1 + 1)) (x149000_1 ++ (Utf8.encode (bt a0 x13_1))) (x149001_1 ++ [0])) else (none)) else (none)) else (if (bt a0 x13_1) = 46 then (if x149000_1.size + (Utf8.encode (bt a0 x13_1)).size ≤ 9223372036854775807 then (if x149001_1.length < 17592186044416 then (impl_readHyphens.l0 kj12 a0 x5_1 (a0.size : Int) (wrap64 (x13_1 + 1)) (x149000_1 ++ (Utf8.encode (bt a0 x13_1))) (x149001_1 ++ [0])) else (none)) else (none)) else (some (x149000_1, x149001_1, false))))) = some (r1, r2, r3) := by rw [if_neg (show ¬ (false = true) by decide)] at H; exact H
                  clear H
                  have H := H1
                  clear H1
                  replace H := Option.bind_eq_some_iff.mp H
                  obtain ⟨t152, A300, H⟩ := H
                  replace H : (if t152 = true then (if x149000_1.size + (Utf8.encode (bt a0 x13_1)).size ≤ 9223372036854775807 then (if x149001_1.length < 17592186044416 then (impl_readHyphens.l0 kj12 a0 x5_1 (a0.size : Int) (wrap64 (x13_1 + 1)) (x149000_1 ++ (Utf8.encode (bt a0 x13_1))) (x149001_1 ++ [0])) else (none)) else (none)) else (if (bt a0 x13_1) = 46 then (if x149000_1.size + (Utf8.encode (bt a0 x13_1)).size ≤ 9223372036854775807 then (if x149001_1.length < 17592186044416 then (impl_readHyphens.l0 kj12 a0 x5_1 (a0.size : Int) (wrap64 (x13_1 + 1)) (x149000_1 ++ (Utf8.encode (bt a0 x13_1))) (x149001_1 ++ [0])) else (none)) else (none)) else (some (x149000_1, x149001_1, false)))) = some (r1, r2, r3) := H
                  have A30 := am A300
                  clear A300
                  by_cases c31 : t152 = true
                  · subst c31
                    have H1 : (if x149000_1.size + (Utf8.encode (bt a0 x13_1)).size ≤ 9223372036854775807 then (if x149001_1.length < 17592186044416 then (impl_readHyphens.l0 kj12 a0 x5_1 (a0.size : Int) (wrap64 (x13_1 + 1)) (x149000_1 ++ (Utf8.encode (bt a0 x13_1))) (x149001_1 ++ [0])) else (none)) else (none)) = some (r1, r2, r3) := by rw [if_pos rfl] at H; exact H
                    clear H
                    have H := H1
                    clear H1
                    by_cases c32 : x149000_1.size + (Utf8.encode (bt a0 x13_1)).size ≤ 9223372036854775807
                    · rw [if_pos c32] at H
                      have c32b0 := eq_true c32
                      have c32b1 : decide (x149000_1.size + (Utf8.encode (bt a0 x13_1)).size ≤ 9223372036854775807) = true := decide_eq_true c32
                      try have c32b2 : (9223372036854775807 < x149000_1.size + (Utf8.encode (bt a0 x13_1)).size) = False := eq_false (Nat.not_lt.2 c32)
                      by_cases c33 : x149001_1.length < 17592186044416
                      · rw [if_pos c33] at H
                        have LMc33 := am c33
                        clear c33
                        obtain ⟨y153, hy153⟩ : ∃ y_ : List Int, y_ = (x149001_1 ++ [0]) := ⟨_, rfl⟩
                        replace H : (impl_readHyphens.l0 kj12 a0 x5_1 (a0.size : Int) (wrap64 (x13_1 + 1)) (x149000_1 ++ (Utf8.encode (bt a0 x13_1))) y153) = some (r1, r2, r3) := by first | (rw [hy153]; with_reducible exact H) | (have H2_ := (Option.bind_some _ _).symm.trans H; rw [hy153]; with_reducible exact H2_) | (have H2_ := (Option.bind_some _ _).symm.trans H; with_reducible exact H2_) | with_reducible exact H | (rw [hy153]; exact H) | exact H
                        have Ny153 := am hy153
                        clear hy153
                        have H' := am H
                        clear H
                        go_wp2_with (first | ((with_reducible refine gate_callee (f := 62) rfl ?_); refine gL (some 49) Try.func62 #[.int .u8 (bt a0 x13_1)] rfl ?_; (with_reducible refine (impl_letterAZ.calls (bt a0 x13_1) true _ A30.out).mono ?_); rintro e w' ⟨rfl, ⟨nd, rfl⟩⟩; refine ⟨_, rfl, ?_⟩; (try (rw [drewN_self wc]; generalize hq_ : World.drewN wc _ = wc; have n0_ : Fc (Kd.R (Kd.int .i64) 3 wc w.heap.size (fun _ => True) u149001 x149001_1) := ⟨by rw [← hq_]; exact (by (with_reducible repeat (first | apply Kd.R_alloc | apply Kd.R_drewN | apply Kd.R_drew)); exact HO_149001.out)⟩; have n1_ : Fc (wc.heap[gb144]? = some (.cells #[.string x145000_1, .slice none 0 0] 78 (0, 0))) := ⟨by rw [← hq_]; exact (kB BK144.out i_)⟩; have n2_ : Fc (wc.heap[gb148]? = some (.cells #[.string x149000_1, u149001] 78 (0, 0))) := ⟨by rw [← hq_]; exact (kB BK148.out i_)⟩; have n3_ : Fc (Below w.heap.size w wc) := ⟨by rw [← hq_]; exact i_⟩; clear HO_149001 BK144 BK148 HB hq_; have HO_149001 := n0_; have BK144 := n1_; have BK148 := n2_; have HB := n3_; clear n0_ n1_ n2_ n3_)); have hnb34 := NB148_144.out; have hnc34 := NB144_148.out; have hcz35 := bc2 BK148.out) | ((with_reducible refine gate_builtin (b := .append) (xs := #[.tmp 61, .tmp 62]) rfl ?_); at_builtin; refine Kd.R_append (Kd.int .i64) (w0 := w) w.heap.size rfl (.tmp 61) (.tmp 62) 76 3 (.int .i64 0) 8 rfl Try.underlying76 info3 rfl (by decide) (by omega) u149001 x149001_1 0 [.int .i64 0] (fun _ => True) (fun _ => False) rfl (by first | (go_simp; done) | (go_simp; rfl)) ?aP (fun _ hk => hk.elim) ?aF ?aO ?aB ?aS ?aL ?_; (case aP => exact rfl); (case aB => exact i_); (case aF => exact (fun _ _ => trivial)); (case aO => exact (by (with_reducible repeat (first | apply Kd.R_alloc | apply Kd.R_drewN | apply Kd.R_drew)); exact Kd.R_mono (Kd.R_far (p := ⟨gb148, 0, none⟩) (Kd.R_types HO_149001.out BK148.out (by decide)) (fun _ hk => hk.2) (.string (x149000_1 ++ (Utf8.encode (bt a0 x13_1))))) (fun _ hk => trivial))); (case aS => exact (below_size (w := w) i_)); (case aL => have := LMc33.out; omega); intro v154 w36 ho hb hg hat; rw [← Ny153.out] at ho; have n0_ := am (blk_grown (g := gb144) (o := .cells #[.string x145000_1, .slice none 0 0] 78 (0, 0)) i_ hg (Kd.R_ne HO_149001.out BK144.out (by decide))); have n1_ := am (blk_grown (g := gb148) (o := .cells #[.string (x149000_1 ++ (Utf8.encode (bt a0 x13_1))), u149001] 78 (0, 0)) (by (with_reducible repeat (first | refine blk_drewN ?_ _ | refine blk_drew ?_ | refine blk_alloc ?_ _)); refine blk_put (cs := #[.string x149000_1, u149001]) ?_ 0 _ rfl; (with_reducible repeat (first | refine blk_drewN ?_ _ | refine blk_drew ?_ | refine blk_alloc ?_ _)); exact BK148.out) hg (Kd.R_ne HO_149001.out BK148.out (by decide))); have n2_ := am (hb); have n3_ := am (ho); clear BK144; clear BK148; clear HB; clear HO_149001; have BK144 := n0_; have BK148 := n1_; have HB := n2_; have HO155 := n3_; clear n0_ n1_ n2_ n3_; clear ho hb hg hat; obtain ⟨Ao37, co37, eo37⟩ := Kd.R_slice HO155.out; subst eo37; have hcz38 := bc2 BK148.out))
                        go_roundg kj12
                        case measure => have := HK1.out; have := HJ12.out; omega
                        case rel => exact ⟨(x5_1), (wrap64 (x13_1 + 1)), (x145000_1), (x149000_1 ++ (Utf8.encode (bt a0 x13_1))), (y153), (.slice Ao37 y153.length co37), (by first | rfl | (simp; done) | (simp [*]; done)), (by first | rfl | (simp; done) | (simp [*]; done)), H', ⟨by have := HK1.out; have := HJ12.out; omega⟩, ⟨by (with_reducible repeat (first | apply Kd.R_alloc | apply Kd.R_drewN | apply Kd.R_drew)); exact Kd.R_mono (Kd.R_far (p := ⟨gb148, 1, none⟩) (Kd.R_types HO155.out BK148.out (by decide)) (fun _ hk => hk.2) (.slice Ao37 y153.length co37)) (fun _ hk => trivial)⟩, ⟨i_⟩, ⟨by (with_reducible repeat (first | refine blk_drewN ?_ _ | refine blk_drew ?_ | refine blk_alloc ?_ _)); refine blk_put (cs := #[.string (x149000_1 ++ (Utf8.encode (bt a0 x13_1))), u149001]) ?_ 1 _ rfl; (with_reducible repeat (first | refine blk_drewN ?_ _ | refine blk_drew ?_ | refine blk_alloc ?_ _)); exact BK148.out⟩, ⟨i_⟩⟩
                      · rw [if_neg c33] at H
                        exact absurd H (by simp)
                    · rw [if_neg c32] at H
                      exact absurd H (by simp)
                  · replace c31 := Bool.eq_false_iff.mpr c31
                    subst c31
                    have H1 : (if (bt a0 x13_1) = 46 then (if x149000_1.size + (Utf8.encode (bt a0 x13_1)).size ≤ 9223372036854775807 then (if x149001_1.length < 17592186044416 then (impl_readHyphens.l0 kj12 a0 x5_1 (a0.size : Int) (wrap64 (x13_1 + 1)) (x149000_1 ++ (Utf8.encode (bt a0 x13_1))) (x149001_1 ++ [0])) else (none)) else (none)) else (some (x149000_1, x149001_1, false))) = some (r1, r2, r3) := by rw [if_neg (show ¬ (false = true) by decide)] at H; exact H
                    clear H
                    have H := H1
                    clear H1
                    by_cases c39 : (bt a0 x13_1) = 46
                    · rw [if_pos c39] at H
                      have c39b0 : ((bt a0 x13_1) == 46) = true := beq_iff_eq.mpr c39
                      have c39b1 : ((bt a0 x13_1) != 46) = false := bne_eq_false_iff_eq.mpr c39
                      clear c39
                      by_cases c40 : x149000_1.size + (Utf8.encode (bt a0 x13_1)).size ≤ 9223372036854775807
                      · rw [if_pos c40] at H
                        have c40b0 := eq_true c40
                        have c40b1 : decide (x149000_1.size + (Utf8.encode (bt a0 x13_1)).size ≤ 9223372036854775807) = true := decide_eq_true c40
                        try have c40b2 : (9223372036854775807 < x149000_1.size + (Utf8.encode (bt a0 x13_1)).size) = False := eq_false (Nat.not_lt.2 c40)
                        by_cases c41 : x149001_1.length < 17592186044416
                        · rw [if_pos c41] at H
                          have LMc41 := am c41
                          clear c41
                          obtain ⟨y156, hy156⟩ : ∃ y_ : List Int, y_ = (x149001_1 ++ [0]) := ⟨_, rfl⟩
                          replace H : (impl_readHyphens.l0 kj12 a0 x5_1 (a0.size : Int) (wrap64 (x13_1 + 1)) (x149000_1 ++ (Utf8.encode (bt a0 x13_1))) y156) = some (r1, r2, r3) := by first | (rw [hy156]; with_reducible exact H) | (have H2_ := (Option.bind_some _ _).symm.trans H; rw [hy156]; with_reducible exact H2_) | (have H2_ := (Option.bind_some _ _).symm.trans H; with_reducible exact H2_) | with_reducible exact H | (rw [hy156]; exact H) | exact H
                          have Ny156 := am hy156
                          clear hy156
                          have H' := am H
                          clear H
                          go_wp2_with (first | ((with_reducible refine gate_callee (f := 62) rfl ?_); refine gL (some 49) Try.func62 #[.int .u8 (bt a0 x13_1)] rfl ?_; (with_reducible refine (impl_letterAZ.calls (bt a0 x13_1) false _ A30.out).mono ?_); rintro e w' ⟨rfl, ⟨nd, rfl⟩⟩; refine ⟨_, rfl, ?_⟩; (try (rw [drewN_self wc]; generalize hq_ : World.drewN wc _ = wc; have n0_ : Fc (Kd.R (Kd.int .i64) 3 wc w.heap.size (fun _ => True) u149001 x149001_1) := ⟨by rw [← hq_]; exact (by (with_reducible repeat (first | apply Kd.R_alloc | apply Kd.R_drewN | apply Kd.R_drew)); exact HO_149001.out)⟩; have n1_ : Fc (wc.heap[gb144]? = some (.cells #[.string x145000_1, .slice none 0 0] 78 (0, 0))) := ⟨by rw [← hq_]; exact (kB BK144.out i_)⟩; have n2_ : Fc (wc.heap[gb148]? = some (.cells #[.string x149000_1, u149001] 78 (0, 0))) := ⟨by rw [← hq_]; exact (kB BK148.out i_)⟩; have n3_ : Fc (Below w.heap.size w wc) := ⟨by rw [← hq_]; exact i_⟩; clear HO_149001 BK144 BK148 HB hq_; have HO_149001 := n0_; have BK144 := n1_; have BK148 := n2_; have HB := n3_; clear n0_ n1_ n2_ n3_)); have hnb42 := NB148_144.out; have hnc42 := NB144_148.out; have hcz43 := bc2 BK148.out) | ((with_reducible refine gate_builtin (b := .append) (xs := #[.tmp 61, .tmp 62]) rfl ?_); at_builtin; refine Kd.R_append (Kd.int .i64) (w0 := w) w.heap.size rfl (.tmp 61) (.tmp 62) 76 3 (.int .i64 0) 8 rfl Try.underlying76 info3 rfl (by decide) (by omega) u149001 x149001_1 0 [.int .i64 0] (fun _ => True) (fun _ => False) rfl (by first | (go_simp; done) | (go_simp; rfl)) ?aP (fun _ hk => hk.elim) ?aF ?aO ?aB ?aS ?aL ?_; (case aP => exact rfl); (case aB => exact i_); (case aF => exact (fun _ _ => trivial)); (case aO => exact (by (with_reducible repeat (first | apply Kd.R_alloc | apply Kd.R_drewN | apply Kd.R_drew)); exact Kd.R_mono (Kd.R_far (p := ⟨gb148, 0, none⟩) (Kd.R_types HO_149001.out BK148.out (by decide)) (fun _ hk => hk.2) (.string (x149000_1 ++ (Utf8.encode (bt a0 x13_1))))) (fun _ hk => trivial))); (case aS => exact (below_size (w := w) i_)); (case aL => have := LMc41.out; omega); intro v157 w44 ho hb hg hat; rw [← Ny156.out] at ho; have n0_ := am (blk_grown (g := gb144) (o := .cells #[.string x145000_1, .slice none 0 0] 78 (0, 0)) i_ hg (Kd.R_ne HO_149001.out BK144.out (by decide))); have n1_ := am (blk_grown (g := gb148) (o := .cells #[.string (x149000_1 ++ (Utf8.encode (bt a0 x13_1))), u149001] 78 (0, 0)) (by (with_reducible repeat (first | refine blk_drewN ?_ _ | refine blk_drew ?_ | refine blk_alloc ?_ _)); refine blk_put (cs := #[.string x149000_1, u149001]) ?_ 0 _ rfl; (with_reducible repeat (first | refine blk_drewN ?_ _ | refine blk_drew ?_ | refine blk_alloc ?_ _)); exact BK148.out) hg (Kd.R_ne HO_149001.out BK148.out (by decide))); have n2_ := am (hb); have n3_ := am (ho); clear BK144; clear BK148; clear HB; clear HO_149001; have BK144 := n0_; have BK148 := n1_; have HB := n2_; have HO158 := n3_; clear n0_ n1_ n2_ n3_; clear ho hb hg hat; obtain ⟨Ao45, co45, eo45⟩ := Kd.R_slice HO158.out; subst eo45; have hcz46 := bc2 BK148.out))
                          go_roundg kj12
                          case measure => have := HK1.out; have := HJ12.out; omega
                          case rel => exact ⟨(x5_1), (wrap64 (x13_1 + 1)), (x145000_1), (x149000_1 ++ (Utf8.encode (bt a0 x13_1))), (y156), (.slice Ao45 y156.length co45), (by first | rfl | (simp; done) | (simp [*]; done)), (by first | rfl | (simp; done) | (simp [*]; done)), H', ⟨by have := HK1.out; have := HJ12.out; omega⟩, ⟨by (with_reducible repeat (first | apply Kd.R_alloc | apply Kd.R_drewN | apply Kd.R_drew)); exact Kd.R_mono (Kd.R_far (p := ⟨gb148, 1, none⟩) (Kd.R_types HO158.out BK148.out (by decide)) (fun _ hk => hk.2) (.slice Ao45 y156.length co45)) (fun _ hk => trivial)⟩, ⟨i_⟩, ⟨by (with_reducible repeat (first | refine blk_drewN ?_ _ | refine blk_drew ?_ | refine blk_alloc ?_ _)); refine blk_put (cs := #[.string (x149000_1 ++ (Utf8.encode (bt a0 x13_1))), u149001]) ?_ 1 _ rfl; (with_reducible repeat (first | refine blk_drewN ?_ _ | refine blk_drew ?_ | refine blk_alloc ?_ _)); exact BK148.out⟩, ⟨i_⟩⟩
                        · rw [if_neg c41] at H
                          exact absurd H (by simp)
                      · rw [if_neg c40] at H
                        exact absurd H (by simp)
                    · rw [if_neg c39] at H
                      have c39b0 : ((bt a0 x13_1) == 46) = false := beq_eq_false_iff_ne.mpr c39
                      have c39b1 : ((bt a0 x13_1) != 46) = true := bne_iff_ne.mpr c39
                      simp only [Option.some.injEq, Prod.mk.injEq] at H
                      obtain ⟨rfl, rfl, rfl⟩ := H
                      go_wp2_with (first | ((with_reducible refine gate_callee (f := 62) rfl ?_); refine gL (some 49) Try.func62 #[.int .u8 (bt a0 x13_1)] rfl ?_; (with_reducible refine (impl_letterAZ.calls (bt a0 x13_1) false _ A30.out).mono ?_); rintro e w' ⟨rfl, ⟨nd, rfl⟩⟩; refine ⟨_, rfl, ?_⟩; (try (rw [drewN_self wc]; generalize hq_ : World.drewN wc _ = wc; have n0_ : Fc (Kd.R (Kd.int .i64) 3 wc w.heap.size (fun _ => True) u149001 x149001_1) := ⟨by rw [← hq_]; exact (by (with_reducible repeat (first | apply Kd.R_alloc | apply Kd.R_drewN | apply Kd.R_drew)); exact HO_149001.out)⟩; have n1_ : Fc (wc.heap[gb144]? = some (.cells #[.string x145000_1, .slice none 0 0] 78 (0, 0))) := ⟨by rw [← hq_]; exact (kB BK144.out i_)⟩; have n2_ : Fc (wc.heap[gb148]? = some (.cells #[.string x149000_1, u149001] 78 (0, 0))) := ⟨by rw [← hq_]; exact (kB BK148.out i_)⟩; have n3_ : Fc (Below w.heap.size w wc) := ⟨by rw [← hq_]; exact i_⟩; clear HO_149001 BK144 BK148 HB hq_; have HO_149001 := n0_; have BK144 := n1_; have BK148 := n2_; have HB := n3_; clear n0_ n1_ n2_ n3_)); have hnb47 := NB148_144.out; have hnc47 := NB144_148.out; have hcz48 := bc2 BK148.out; have hcz49 := bc2 BK144.out; obtain ⟨Ao50, co50, eo50⟩ := Kd.R_slice HO_149001.out; subst eo50))
                      refine bodyPost_ret (results_ct rfl _ _ gb144 78 #[.string x149000_1, .slice Ao50 x149001_1.length co50] (0, 0) _ rfl (by (with_reducible repeat (first | refine blk_drewN ?_ _ | refine blk_drew ?_ | refine blk_alloc ?_ _)); refine blk_put (cs := #[.string x149000_1, .slice none 0 0]) ?_ 1 _ rfl; (with_reducible repeat (first | refine blk_drewN ?_ _ | refine blk_drew ?_ | refine blk_alloc ?_ _)); refine blk_put (cs := #[.string x145000_1, .slice none 0 0]) ?_ 0 _ rfl; (with_reducible repeat (first | refine blk_drewN ?_ _ | refine blk_drew ?_ | refine blk_alloc ?_ _)); exact BK144.out) Try.underlying78 rfl (by kernel_rfl)) rfl ?_
                      exact ⟨_, by first | rfl | (simp [errW_none, errW_some] <;> rfl) | (simp [*, errW_none, errW_some] <;> rfl), by (with_reducible repeat (first | apply Kd.R_alloc | apply Kd.R_drewN | apply Kd.R_drew)); exact Kd.R_mono (Kd.R_far (p := ⟨gb144, 1, none⟩) (Kd.R_far (p := ⟨gb144, 0, none⟩) (Kd.R_types HO_149001.out BK144.out (by decide)) (fun _ hk => hk.2) (.string x149000_1)) (fun _ hk => hk.2) (.slice Ao50 x149001_1.length co50)) (fun _ hk => trivial), i_⟩
          · rw [if_neg c11] at H
            exact absurd H (by simp)
        · rw [if_neg c10] at H
          exact absurd H (by simp)
      · rw [if_neg c9] at H
        have c9b0 : decide (x13_1 < (a0.size : Int)) = false := decide_eq_false c9
        clear c9
        by_cases c51 : (x149000_1.size : Int) < 1
        · rw [if_pos c51] at H
          have c51b0 : decide ((x149000_1.size : Int) < 1) = true := decide_eq_true c51
          have c51b1 : decide (x149000_1.size < 1) = true := decide_eq_true (by omega)
          clear c51
          simp only [Option.some.injEq, Prod.mk.injEq] at H
          obtain ⟨rfl, rfl, rfl⟩ := H
          have hnb52 := NB148_144.out
          have hnc52 := NB144_148.out
          have hcz53 := bc2 BK148.out
          have hcz54 := bc2 BK144.out
          obtain ⟨Ao55, co55, eo55⟩ := Kd.R_slice HO_149001.out
          subst eo55
          go_wp2
          refine bodyPost_ret (results_ct rfl _ _ gb144 78 #[.string x149000_1, .slice Ao55 x149001_1.length co55] (0, 0) _ rfl (by (with_reducible repeat (first | refine blk_drewN ?_ _ | refine blk_drew ?_ | refine blk_alloc ?_ _)); refine blk_put (cs := #[.string x149000_1, .slice none 0 0]) ?_ 1 _ rfl; (with_reducible repeat (first | refine blk_drewN ?_ _ | refine blk_drew ?_ | refine blk_alloc ?_ _)); refine blk_put (cs := #[.string x145000_1, .slice none 0 0]) ?_ 0 _ rfl; (with_reducible repeat (first | refine blk_drewN ?_ _ | refine blk_drew ?_ | refine blk_alloc ?_ _)); exact BK144.out) Try.underlying78 rfl (by kernel_rfl)) rfl ?_
          exact ⟨_, by first | rfl | (simp [errW_none, errW_some] <;> rfl) | (simp [*, errW_none, errW_some] <;> rfl), by (with_reducible repeat (first | apply Kd.R_alloc | apply Kd.R_drewN | apply Kd.R_drew)); exact Kd.R_mono (Kd.R_far (p := ⟨gb144, 1, none⟩) (Kd.R_far (p := ⟨gb144, 0, none⟩) (Kd.R_types HO_149001.out BK144.out (by decide)) (fun _ hk => hk.2) (.string x149000_1)) (fun _ hk => hk.2) (.slice Ao55 x149001_1.length co55)) (fun _ hk => trivial), i_⟩
        · rw [if_neg c51] at H
          have c51b0 : decide ((x149000_1.size : Int) < 1) = false := decide_eq_false c51
          have c51b1 : decide (x149000_1.size < 1) = false := decide_eq_false (by omega)
          clear c51
          by_cases c56 : (x149000_1.size : Int) > 20
          · rw [if_pos c56] at H
            have c56b0 : decide (20 < (x149000_1.size : Int)) = true := decide_eq_true c56
            have c56b1 : decide (20 < x149000_1.size) = true := decide_eq_true (by omega)
            clear c56
            simp only [Option.some.injEq, Prod.mk.injEq] at H
            obtain ⟨rfl, rfl, rfl⟩ := H
            have hnb57 := NB148_144.out
            have hnc57 := NB144_148.out
            have hcz58 := bc2 BK148.out
            have hcz59 := bc2 BK144.out
            obtain ⟨Ao60, co60, eo60⟩ := Kd.R_slice HO_149001.out
            subst eo60
            go_wp2
            refine bodyPost_ret (results_ct rfl _ _ gb144 78 #[.string x149000_1, .slice Ao60 x149001_1.length co60] (0, 0) _ rfl (by (with_reducible repeat (first | refine blk_drewN ?_ _ | refine blk_drew ?_ | refine blk_alloc ?_ _)); refine blk_put (cs := #[.string x149000_1, .slice none 0 0]) ?_ 1 _ rfl; (with_reducible repeat (first | refine blk_drewN ?_ _ | refine blk_drew ?_ | refine blk_alloc ?_ _)); refine blk_put (cs := #[.string x145000_1, .slice none 0 0]) ?_ 0 _ rfl; (with_reducible repeat (first | refine blk_drewN ?_ _ | refine blk_drew ?_ | refine blk_alloc ?_ _)); exact BK144.out) Try.underlying78 rfl (by kernel_rfl)) rfl ?_
            exact ⟨_, by first | rfl | (simp [errW_none, errW_some] <;> rfl) | (simp [*, errW_none, errW_some] <;> rfl), by (with_reducible repeat (first | apply Kd.R_alloc | apply Kd.R_drewN | apply Kd.R_drew)); exact Kd.R_mono (Kd.R_far (p := ⟨gb144, 1, none⟩) (Kd.R_far (p := ⟨gb144, 0, none⟩) (Kd.R_types HO_149001.out BK144.out (by decide)) (fun _ hk => hk.2) (.string x149000_1)) (fun _ hk => hk.2) (.slice Ao60 x149001_1.length co60)) (fun _ hk => trivial), i_⟩
          · rw [if_neg c56] at H
            have c56b0 : decide (20 < (x149000_1.size : Int)) = false := decide_eq_false c56
            have c56b1 : decide (20 < x149000_1.size) = false := decide_eq_false (by omega)
            clear c56
            by_cases c61 : x5_1 = true
            · subst c61
              have H1 : (if (x149000_1.size : Int) > 2 then (if 1 ≤ (wrap64 ((x149000_1.size : Int) - 1)) then (if (wrap64 ((x149000_1.size : Int) - 1)) ≤ (x149000_1.size : Int) then ((strings_Contains.f (x149000_1.extract 1 ((wrap64 ((x149000_1.size : Int) - 1)) : Int).toNat) (⟨#[46]⟩ : ByteArray)).bind fun t149 => (if t149 = true then (some (x149000_1, x149001_1, false)) else (some (x149000_1, x149001_1, true)))) else (none)) else (none)) else (some (x149000_1, x149001_1, true))) = some (r1, r2, r3) := by rw [if_pos rfl] at H; exact H
              clear H
              have H := H1
              clear H1
              by_cases c62 : (x149000_1.size : Int) > 2
              · rw [if_pos c62] at H
                have c62b0 : decide (2 < (x149000_1.size : Int)) = true := decide_eq_true c62
                have c62b1 : decide (2 < x149000_1.size) = true := decide_eq_true (by omega)
                clear c62
                by_cases c63 : 1 ≤ (wrap64 ((x149000_1.size : Int) - 1))
                · rw [if_pos c63] at H
                  have c63b0 := eq_true c63
                  have c63b1 : decide (1 ≤ (wrap64 ((x149000_1.size : Int) - 1))) = true := decide_eq_true c63
                  clear c63
                  by_cases c64 : (wrap64 ((x149000_1.size : Int) - 1)) ≤ (x149000_1.size : Int)
                  · rw [if_pos c64] at H
                    have c64b0 := eq_true c64
                    have c64b1 : decide ((wrap64 ((x149000_1.size : Int) - 1)) ≤ (x149000_1.size : Int)) = true := decide_eq_true c64
                    clear c64
                    replace H := Option.bind_eq_some_iff.mp H
                    obtain ⟨t149, A650, H⟩ := H
                    replace H : (if t149 = true then (some (x149000_1, x149001_1, false)) else (some (x149000_1, x149001_1, true))) = some (r1, r2, r3) := H
                    have A65 := am A650
                    clear A650
                    by_cases c66 : t149 = true
                    · subst c66
                      have H1 : (some (x149000_1, x149001_1, false)) = some (r1, r2, r3) := by rw [if_pos rfl] at H; exact H
                      clear H
                      have H := H1
                      clear H1
                      simp only [Option.some.injEq, Prod.mk.injEq] at H
                      obtain ⟨rfl, rfl, rfl⟩ := H
                      have hnb67 := NB148_144.out
                      have hnc67 := NB144_148.out
                      have hcz68 := bc2 BK148.out
                      go_wp2_with (first | (go_at_call 76; (with_reducible refine (strings_Contains.calls (x149000_1.extract 1 ((wrap64 ((x149000_1.size : Int) - 1)) : Int).toNat) (⟨#[46]⟩ : ByteArray) true _ A65.out).mono ?_); rintro e w' ⟨rfl, ⟨nd, rfl⟩⟩; (try (rw [drewN_self wr]; generalize hq_ : World.drewN wr _ = wr; have n0_ : Fc (Kd.R (Kd.int .i64) 3 wr w.heap.size (fun _ => True) u149001 x149001_1) := ⟨by rw [← hq_]; exact (by (with_reducible repeat (first | apply Kd.R_alloc | apply Kd.R_drewN | apply Kd.R_drew)); exact HO_149001.out)⟩; have n1_ : Fc (wr.heap[gb144]? = some (.cells #[.string x145000_1, .slice none 0 0] 78 (0, 0))) := ⟨by rw [← hq_]; exact (kB BK144.out i_)⟩; have n2_ : Fc (wr.heap[gb148]? = some (.cells #[.string x149000_1, u149001] 78 (0, 0))) := ⟨by rw [← hq_]; exact (kB BK148.out i_)⟩; have n3_ : Fc (Below w.heap.size w wr) := ⟨by rw [← hq_]; exact i_⟩; clear HO_149001 BK144 BK148 HB hq_; have HO_149001 := n0_; have BK144 := n1_; have BK148 := n2_; have HB := n3_; clear n0_ n1_ n2_ n3_)); have hcz69 := bc2 BK148.out; have hcz70 := bc2 BK144.out; obtain ⟨Ao71, co71, eo71⟩ := Kd.R_slice HO_149001.out; subst eo71))
                      refine bodyPost_ret (results_ct rfl _ _ gb144 78 #[.string x149000_1, .slice Ao71 x149001_1.length co71] (0, 0) _ rfl (by (with_reducible repeat (first | refine blk_drewN ?_ _ | refine blk_drew ?_ | refine blk_alloc ?_ _)); refine blk_put (cs := #[.string x149000_1, .slice none 0 0]) ?_ 1 _ rfl; (with_reducible repeat (first | refine blk_drewN ?_ _ | refine blk_drew ?_ | refine blk_alloc ?_ _)); refine blk_put (cs := #[.string x145000_1, .slice none 0 0]) ?_ 0 _ rfl; (with_reducible repeat (first | refine blk_drewN ?_ _ | refine blk_drew ?_ | refine blk_alloc ?_ _)); exact BK144.out) Try.underlying78 rfl (by kernel_rfl)) rfl ?_
                      exact ⟨_, by first | rfl | (simp [errW_none, errW_some] <;> rfl) | (simp [*, errW_none, errW_some] <;> rfl), by (with_reducible repeat (first | apply Kd.R_alloc | apply Kd.R_drewN | apply Kd.R_drew)); exact Kd.R_mono (Kd.R_far (p := ⟨gb144, 1, none⟩) (Kd.R_far (p := ⟨gb144, 0, none⟩) (Kd.R_types HO_149001.out BK144.out (by decide)) (fun _ hk => hk.2) (.string x149000_1)) (fun _ hk => hk.2) (.slice Ao71 x149001_1.length co71)) (fun _ hk => trivial), i_⟩
                    · replace c66 := Bool.eq_false_iff.mpr c66
                      subst c66
                      have H1 : (some (x149000_1, x149001_1, true)) = some (r1, r2, r3) := by rw [if_neg (show ¬ (false = true) by decide)] at H; exact H
                      clear H
                      have H := H1
                      clear H1
                      simp only [Option.some.injEq, Prod.mk.injEq] at H
                      obtain ⟨rfl, rfl, rfl⟩ := H
                      have hnb72 := NB148_144.out
                      have hnc72 := NB144_148.out
                      have hcz73 := bc2 BK148.out
                      go_wp2_with (first | (go_at_call 76; (with_reducible refine (strings_Contains.calls (x149000_1.extract 1 ((wrap64 ((x149000_1.size : Int) - 1)) : Int).toNat) (⟨#[46]⟩ : ByteArray) false _ A65.out).mono ?_); rintro e w' ⟨rfl, ⟨nd, rfl⟩⟩; (try (rw [drewN_self wr]; generalize hq_ : World.drewN wr _ = wr; have n0_ : Fc (Kd.R (Kd.int .i64) 3 wr w.heap.size (fun _ => True) u149001 x149001_1) := ⟨by rw [← hq_]; exact (by (with_reducible repeat (first | apply Kd.R_alloc | apply Kd.R_drewN | apply Kd.R_drew)); exact HO_149001.out)⟩; have n1_ : Fc (wr.heap[gb144]? = some (.cells #[.string x145000_1, .slice none 0 0] 78 (0, 0))) := ⟨by rw [← hq_]; exact (kB BK144.out i_)⟩; have n2_ : Fc (wr.heap[gb148]? = some (.cells #[.string x149000_1, u149001] 78 (0, 0))) := ⟨by rw [← hq_]; exact (kB BK148.out i_)⟩; have n3_ : Fc (Below w.heap.size w wr) := ⟨by rw [← hq_]; exact i_⟩; clear HO_149001 BK144 BK148 HB hq_; have HO_149001 := n0_; have BK144 := n1_; have BK148 := n2_; have HB := n3_; clear n0_ n1_ n2_ n3_)); have hcz74 := bc2 BK148.out; have hcz75 := bc2 BK144.out; obtain ⟨Ao76, co76, eo76⟩ := Kd.R_slice HO_149001.out; subst eo76))
                      refine bodyPost_ret (results_ct rfl _ _ gb144 78 #[.string x149000_1, .slice Ao76 x149001_1.length co76] (0, 0) _ rfl (by (with_reducible repeat (first | refine blk_drewN ?_ _ | refine blk_drew ?_ | refine blk_alloc ?_ _)); refine blk_put (cs := #[.string x149000_1, .slice none 0 0]) ?_ 1 _ rfl; (with_reducible repeat (first | refine blk_drewN ?_ _ | refine blk_drew ?_ | refine blk_alloc ?_ _)); refine blk_put (cs := #[.string x145000_1, .slice none 0 0]) ?_ 0 _ rfl; (with_reducible repeat (first | refine blk_drewN ?_ _ | refine blk_drew ?_ | refine blk_alloc ?_ _)); exact BK144.out) Try.underlying78 rfl (by kernel_rfl)) rfl ?_
                      exact ⟨_, by first | rfl | (simp [errW_none, errW_some] <;> rfl) | (simp [*, errW_none, errW_some] <;> rfl), by (with_reducible repeat (first | apply Kd.R_alloc | apply Kd.R_drewN | apply Kd.R_drew)); exact Kd.R_mono (Kd.R_far (p := ⟨gb144, 1, none⟩) (Kd.R_far (p := ⟨gb144, 0, none⟩) (Kd.R_types HO_149001.out BK144.out (by decide)) (fun _ hk => hk.2) (.string x149000_1)) (fun _ hk => hk.2) (.slice Ao76 x149001_1.length co76)) (fun _ hk => trivial), i_⟩
                  · rw [if_neg c64] at H
                    exact absurd H (by simp)
                · rw [if_neg c63] at H
                  exact absurd H (by simp)
              · rw [if_neg c62] at H
                have c62b0 : decide (2 < (x149000_1.size : Int)) = false := decide_eq_false c62
                have c62b1 : decide (2 < x149000_1.size) = false := decide_eq_false (by omega)
                clear c62
                simp only [Option.some.injEq, Prod.mk.injEq] at H
                obtain ⟨rfl, rfl, rfl⟩ := H
                have hnb77 := NB148_144.out
                have hnc77 := NB144_148.out
                have hcz78 := bc2 BK148.out
                have hcz79 := bc2 BK144.out
                obtain ⟨Ao80, co80, eo80⟩ := Kd.R_slice HO_149001.out
                subst eo80
                go_wp2
                refine bodyPost_ret (results_ct rfl _ _ gb144 78 #[.string x149000_1, .slice Ao80 x149001_1.length co80] (0, 0) _ rfl (by (with_reducible repeat (first | refine blk_drewN ?_ _ | refine blk_drew ?_ | refine blk_alloc ?_ _)); refine blk_put (cs := #[.string x149000_1, .slice none 0 0]) ?_ 1 _ rfl; (with_reducible repeat (first | refine blk_drewN ?_ _ | refine blk_drew ?_ | refine blk_alloc ?_ _)); refine blk_put (cs := #[.string x145000_1, .slice none 0 0]) ?_ 0 _ rfl; (with_reducible repeat (first | refine blk_drewN ?_ _ | refine blk_drew ?_ | refine blk_alloc ?_ _)); exact BK144.out) Try.underlying78 rfl (by kernel_rfl)) rfl ?_
                exact ⟨_, by first | rfl | (simp [errW_none, errW_some] <;> rfl) | (simp [*, errW_none, errW_some] <;> rfl), by (with_reducible repeat (first | apply Kd.R_alloc | apply Kd.R_drewN | apply Kd.R_drew)); exact Kd.R_mono (Kd.R_far (p := ⟨gb144, 1, none⟩) (Kd.R_far (p := ⟨gb144, 0, none⟩) (Kd.R_types HO_149001.out BK144.out (by decide)) (fun _ hk => hk.2) (.string x149000_1)) (fun _ hk => hk.2) (.slice Ao80 x149001_1.length co80)) (fun _ hk => trivial), i_⟩
            · replace c61 := Bool.eq_false_iff.mpr c61
              subst c61
              have H1 : (some (x149000_1, x149001_1, false)) = some (r1, r2, r3) := by rw [if_neg (show ¬ (false = true) by decide)] at H; exact H
              clear H
              have H := H1
              clear H1
              simp only [Option.some.injEq, Prod.mk.injEq] at H
              obtain ⟨rfl, rfl, rfl⟩ := H
              have hnb81 := NB148_144.out
              have hnc81 := NB144_148.out
              have hcz82 := bc2 BK148.out
              have hcz83 := bc2 BK144.out
              obtain ⟨Ao84, co84, eo84⟩ := Kd.R_slice HO_149001.out
              subst eo84
              go_wp2
              refine bodyPost_ret (results_ct rfl _ _ gb144 78 #[.string x149000_1, .slice Ao84 x149001_1.length co84] (0, 0) _ rfl (by (with_reducible repeat (first | refine blk_drewN ?_ _ | refine blk_drew ?_ | refine blk_alloc ?_ _)); refine blk_put (cs := #[.string x149000_1, .slice none 0 0]) ?_ 1 _ rfl; (with_reducible repeat (first | refine blk_drewN ?_ _ | refine blk_drew ?_ | refine blk_alloc ?_ _)); refine blk_put (cs := #[.string x145000_1, .slice none 0 0]) ?_ 0 _ rfl; (with_reducible repeat (first | refine blk_drewN ?_ _ | refine blk_drew ?_ | refine blk_alloc ?_ _)); exact BK144.out) Try.underlying78 rfl (by kernel_rfl)) rfl ?_
              exact ⟨_, by first | rfl | (simp [errW_none, errW_some] <;> rfl) | (simp [*, errW_none, errW_some] <;> rfl), by (with_reducible repeat (first | apply Kd.R_alloc | apply Kd.R_drewN | apply Kd.R_drew)); exact Kd.R_mono (Kd.R_far (p := ⟨gb144, 1, none⟩) (Kd.R_far (p := ⟨gb144, 0, none⟩) (Kd.R_types HO_149001.out BK144.out (by decide)) (fun _ hk => hk.2) (.string x149000_1)) (fun _ hk => hk.2) (.slice Ao84 x149001_1.length co84)) (fun _ hk => trivial), i_⟩

/-! ### impl_PatternsFault: function 22 -/
def impl_PatternsFault.l0 : Nat → List ByteArray → List ByteArray → Int → Int → Option (Int)
  | 0, _, _, _, _ => none
  | k + 1, x0, x10, x11, x12 => if x12 < x11 then (if 0 ≤ x12 then (if x12 < (x10.length : Int) then ((impl_readHyphens.f k (rdOf ByteArray.empty x10 x12)).bind fun bt160 => (if bt160.2.2 = true then (if x12 > 0 then (if 0 ≤ (wrap64 (x12 - 1)) then (if (wrap64 (x12 - 1)) < (x0.length : Int) then (if ((Op.bytesLess ((rdOf ByteArray.empty x0 (wrap64 (x12 - 1))).toList) ((rdOf ByteArray.empty x10 x12).toList)) = true) then (impl_PatternsFault.l0 k x0 x10 x11 (wrap64 (x12 + 1))) else (some 1)) else (none)) else (none)) else (impl_PatternsFault.l0 k x0 x10 x11 (wrap64 (x12 + 1)))) else (some 1))) else (none)) else (none)) else (some 0)
def impl_PatternsFault.f (k : Nat) (l0 : List ByteArray) : Option (Int) := if (l0.length : Int) > 1000 then (some 1) else (impl_PatternsFault.l0 k l0 l0 (l0.length : Int) 0)
theorem impl_PatternsFault.mono_l : ∀ k, (∀ y0 y1 y2 y3, LeO (impl_PatternsFault.l0 k y0 y1 y2 y3) (impl_PatternsFault.l0 (k + 1) y0 y1 y2 y3))
  | 0 => fun _ _ _ _ r h => by simp [impl_PatternsFault.l0] at h
  | k + 1 => by
    have ih0 := impl_PatternsFault.mono_l k
    · intro y0 y1 y2 y3
      unfold impl_PatternsFault.l0
      repeat' first
      | (with_reducible exact ih0 _ _ _ _)
      | (with_reducible exact impl_readHyphens.mono _ _)
      | (with_reducible exact LeO.refl _)
      | (with_reducible exact LeO.none _)
      | (with_reducible refine LeO.ite ?_ ?_)
      | (with_reducible refine LeO.bind ?_ (fun _ => ?_))
      | exact ih0 _ _ _ _
      | exact impl_readHyphens.mono _ _
      | exact LeO.none _
      | refine LeO.ite ?_ ?_
      | refine LeO.bind ?_ (fun _ => ?_)
theorem impl_PatternsFault.mono : ∀ a0 k, LeO (impl_PatternsFault.f k a0) (impl_PatternsFault.f (k + 1) a0) := by
  intro a0 k
  have ih0 := impl_PatternsFault.mono_l k
  unfold impl_PatternsFault.f
  repeat' first
      | (with_reducible exact ih0 _ _ _ _)
      | (with_reducible exact impl_readHyphens.mono _ _)
      | (with_reducible exact LeO.refl _)
      | (with_reducible exact LeO.none _)
      | (with_reducible refine LeO.ite ?_ ?_)
      | (with_reducible refine LeO.bind ?_ (fun _ => ?_))
      | exact ih0 _ _ _ _
      | exact impl_readHyphens.mono _ _
      | exact LeO.none _
      | refine LeO.ite ?_ ?_
      | refine LeO.bind ?_ (fun _ => ?_)
set_option maxHeartbeats 8000000 in
set_option maxRecDepth 100000 in
theorem impl_PatternsFault.calls (k : Nat) (A0 : Option Addr) (c0 : Nat) (l0 : List ByteArray) (r : Int) (w : World) (hr0 : Kd.C Kd.string w A0 l0.length l0) (hc0 : l0.length ≤ c0) (h : impl_PatternsFault.f k l0 = some r) :
    Calls Try.prog 22 #[.slice A0 l0.length c0] w fun e w' => e = .returned (.int .i64 r) ∧ Below w.heap.size w w' := by
  have hu78 := Try.underlying78
  have HR0 := am hr0
  have HC0 := am hc0
  clear hr0 hc0
  have HB := am (Below.refl w.heap.size w)
  have H : (if (l0.length : Int) > 1000 then (some 1) else (impl_PatternsFault.l0 k l0 l0 (l0.length : Int) 0)) = some r := h
  clear h
  by_cases c2 : (l0.length : Int) > 1000
  · rw [if_pos c2] at H
    have c2b0 : decide (1000 < (l0.length : Int)) = true := decide_eq_true c2
    have c2b1 : decide (1000 < l0.length) = true := decide_eq_true (by omega)
    clear c2
    obtain rfl := Option.some.inj H
    go_enter Try.func22, Try.ntmps22
    go_wp2
    go_ret
    exact ⟨by first | rfl | (simp [errW_none, errW_some] <;> rfl) | (simp [*, errW_none, errW_some] <;> rfl), i_⟩
  · rw [if_neg c2] at H
    have c2b0 : decide (1000 < (l0.length : Int)) = false := decide_eq_false c2
    have c2b1 : decide (1000 < l0.length) = false := decide_eq_false (by omega)
    clear c2
    have H' := am H
    clear H
    go_enter Try.func22, Try.ntmps22
    go_wp2
    go_loopg [12] k (fun kq v12 w' => ∃ (x12_1 : Int), v12 = .int .i64 x12_1 ∧ Fc (impl_PatternsFault.l0 kq l0 l0 (l0.length : Int) x12_1 = some r) ∧ Fc (kq ≤ k) ∧ Fc (Below w.heap.size w w'))
    case atStart => exact ⟨(0), (by first | rfl | (simp; done) | (simp [*]; done)), H', ⟨Nat.le_refl _⟩, ⟨i_⟩⟩
    case round =>
      clear H'
      (try clear c2); (try clear c2b0); (try clear c2b1); (try clear p2)
      obtain ⟨x12_1, rfl, HA, HK1, HB⟩ := hrel
      cases gk with
      | zero => exact absurd HA.out (by simp [impl_PatternsFault.l0])
      | succ k1 =>
        have H := HA.out
        clear HA
        simp only [impl_PatternsFault.l0] at H
        by_cases c3 : x12_1 < (l0.length : Int)
        · rw [if_pos c3] at H
          have c3b0 : decide (x12_1 < (l0.length : Int)) = true := decide_eq_true c3
          clear c3
          by_cases c4 : 0 ≤ x12_1
          · rw [if_pos c4] at H
            have c4b0 : decide (0 ≤ x12_1) = true := decide_eq_true c4
            clear c4
            by_cases c5 : x12_1 < (l0.length : Int)
            · rw [if_pos c5] at H
              have c5b0 : decide (x12_1 < (l0.length : Int)) = true := decide_eq_true c5
              clear c5
              replace H := Option.bind_eq_some_iff.mp H
              obtain ⟨⟨t160, t161, t164⟩, A60, H⟩ := H
              replace H : (if t164 = true then (if x12_1 > 0 then (if 0 ≤ (wrap64 (x12_1 - 1)) then (if (wrap64 (x12_1 - 1)) < (l0.length : Int) then (if ((Op.bytesLess ((rdOf ByteArray.empty l0 (wrap64 (x12_1 - 1))).toList) ((rdOf ByteArray.empty l0 x12_1).toList)) = true) then (impl_PatternsFault.l0 k1 l0 l0 (l0.length : Int) (wrap64 (x12_1 + 1))) else (some 1)) else (none)) else (none)) else (impl_PatternsFault.l0 k1 l0 l0 (l0.length : Int) (wrap64 (x12_1 + 1)))) else (some 1)) = some r := H
              have A6 := am A60
              clear A60
              by_cases c7 : t164 = true
              · subst c7
                have H1 : (if x12_1 > 0 then (if 0 ≤ (wrap64 (x12_1 - 1)) then (if (wrap64 (x12_1 - 1)) < (l0.length : Int) then (if ((Op.bytesLess ((rdOf ByteArray.empty l0 (wrap64 (x12_1 - 1))).toList) ((rdOf ByteArray.empty l0 x12_1).toList)) = true) then (impl_PatternsFault.l0 k1 l0 l0 (l0.length : Int) (wrap64 (x12_1 + 1))) else (some 1)) else (none)) else (none)) else (impl_PatternsFault.l0 k1 l0 l0 (l0.length : Int) (wrap64 (x12_1 + 1)))) = some r := by rw [if_pos rfl] at H; exact H
                clear H
                have H := H1
                clear H1
                by_cases c8 : x12_1 > 0
                · rw [if_pos c8] at H
                  have c8b0 : decide (0 < x12_1) = true := decide_eq_true c8
                  clear c8
                  obtain ⟨ji9, hji9⟩ : ∃ j_ : Int, (wrap64 (x12_1 - 1)) = j_ := ⟨_, rfl⟩
                  replace H : (if 0 ≤ (ji9) then (if (ji9) < (l0.length : Int) then (if ((Op.bytesLess ((rdOf ByteArray.empty l0 (ji9)).toList) ((rdOf ByteArray.empty l0 x12_1).toList)) = true) then (impl_PatternsFault.l0 k1 l0 l0 (l0.length : Int) (wrap64 (x12_1 + 1))) else (some 1)) else (none)) else (none)) = some r := by first | (rw [hji9] at H; exact H) | (simp only [hji9] at H ⊢; exact H)
                  (try rw [hji9] at A6)
                  have hji9w : (IntKind.i64.wrap (x12_1 - 1)) = ji9 := (i64_w _).trans hji9
                  by_cases c10 : 0 ≤ (ji9)
                  · rw [if_pos c10] at H
                    have c10b0 : decide (0 ≤ (ji9)) = true := decide_eq_true c10
                    clear c10
                    by_cases c11 : (ji9) < (l0.length : Int)
                    · rw [if_pos c11] at H
                      have c11b0 : decide ((ji9) < (l0.length : Int)) = true := decide_eq_true c11
                      clear c11
                      by_cases c12 : ((Op.bytesLess ((rdOf ByteArray.empty l0 (ji9)).toList) ((rdOf ByteArray.empty l0 x12_1).toList)) = true)
                      · rw [if_pos c12] at H
                        have c12b0 : (Op.bytesLess ((rdOf ByteArray.empty l0 (ji9)).toList) ((rdOf ByteArray.empty l0 x12_1).toList)) = true := c12
                        clear c12
                        have H' := am H
                        clear H
                        have p159 : 0 ≤ (x12_1 : Int) := of_decide_eq_true (by first | (with_reducible assumption) | assumption)
                        have q159 : x12_1 < (l0.length : Int) := of_decide_eq_true (by first | (with_reducible assumption) | assumption)
                        obtain ⟨ad159, e159, hx159_0⟩ := Kd.at_string HR0.out x12_1 p159 q159
                        cases e159
                        replace hx159_0 := (HB.out.cell (World.block_lt_of_cell? w _ hx159_0)).trans hx159_0
                        replace p159 := eq_true p159
                        replace q159 := eq_true q159
                        go_wp2_with (first | ((with_reducible refine gate_callee (f := 52) rfl ?_); refine gL (some 19) Try.func52 #[.string (rdOf ByteArray.empty l0 x12_1)] rfl ?_; (with_reducible refine (impl_readHyphens.calls k1 (rdOf ByteArray.empty l0 x12_1) t160 t161 true _ A6.out).mono ?_); rintro e w13 ⟨v162, rfl, ho0, hb⟩; refine ⟨_, rfl, ?_⟩; have HO163 := am (Kd.R_lower ho0 (below_size (w := w) i_)); replace HB := am (below_step (w := w) i_ hb); (try clear hb); (try clear hb2); (try clear hk); (try clear hi); (try clear ho0)) | ((with_reducible refine gate_dst (N := 5) rfl ?_); refine bX (N := 5) (cs := #[.string (⟨#[]⟩ : ByteArray), .slice none 0 0]) (t := 78) ?_; intro gb165 hg w14 hbox hb; have BK165 := am (hbox); have GW165 := am ((by rw [hg]; exact (below_size (w := w) i_) : w.heap.size ≤ gb165)); have GE165 := am ((by rw [hg]; exact (below_size (w := w) i_) : w.heap.size ≤ gb165)); replace HO163 := am (rB HO163.out i_ hb); replace HB := am (below_step (w := w) i_ hb); clear hb hbox hg; have hcz15 := bc2 BK165.out; obtain ⟨Ao16, co16, eo16⟩ := Kd.R_slice HO163.out; subst eo16; have p166 : 0 ≤ ((ji9) : Int) := of_decide_eq_true (by first | (with_reducible assumption) | assumption); have q166 : (ji9) < (l0.length : Int) := of_decide_eq_true (by first | (with_reducible assumption) | assumption); obtain ⟨ad166, e166, hx166_0⟩ := Kd.at_string HR0.out (ji9) p166 q166; obtain rfl : ad159 = ad166 := (by injection e166); have hn166_0 : ad159.block ≠ gb165 := Nat.ne_of_lt (Nat.lt_of_lt_of_le (by have := World.block_lt_of_cell? _ _ hx166_0; first | rwa [add_block] at this | exact this) GW165.out); have hn166_1 : ad159.block ≠ gb165 := Nat.ne_of_lt (Nat.lt_of_lt_of_le (by have := World.block_lt_of_cell? _ _ hx166_0; first | rwa [add_block] at this | exact this) GW165.out); replace hx166_0 := (HB.out.cell (World.block_lt_of_cell? w _ hx166_0)).trans hx166_0; replace hx166_0 := (cell_far (p := ⟨gb165, 0, none⟩) (by first | (rw [add_block]; exact hn166_0) | (show (Addr.add _ _).block ≠ _; rw [add_block]; exact hn166_0) | exact hn166_0) (.string t160)).trans hx166_0; replace hx166_0 := (cell_far (p := ⟨gb165, 1, none⟩) (by first | (rw [add_block]; exact hn166_1) | (show (Addr.add _ _).block ≠ _; rw [add_block]; exact hn166_1) | exact hn166_1) (.slice Ao16 t161.length co16)).trans hx166_0; clear hn166_0; clear hn166_1; replace p166 := eq_true p166; replace q166 := eq_true q166))
                        go_roundg k1
                        case measure => have := HK1.out; omega
                        case rel => exact ⟨(wrap64 (x12_1 + 1)), (by first | rfl | (simp; done) | (simp [*]; done)), H', ⟨by have := HK1.out; omega⟩, ⟨i_⟩⟩
                      · rw [if_neg c12] at H
                        have c12b0 : (Op.bytesLess ((rdOf ByteArray.empty l0 (ji9)).toList) ((rdOf ByteArray.empty l0 x12_1).toList)) = false := by simpa using c12
                        clear c12
                        obtain rfl := Option.some.inj H
                        have p159 : 0 ≤ (x12_1 : Int) := of_decide_eq_true (by first | (with_reducible assumption) | assumption)
                        have q159 : x12_1 < (l0.length : Int) := of_decide_eq_true (by first | (with_reducible assumption) | assumption)
                        obtain ⟨ad159, e159, hx159_0⟩ := Kd.at_string HR0.out x12_1 p159 q159
                        cases e159
                        replace hx159_0 := (HB.out.cell (World.block_lt_of_cell? w _ hx159_0)).trans hx159_0
                        replace p159 := eq_true p159
                        replace q159 := eq_true q159
                        go_wp2_with (first | ((with_reducible refine gate_callee (f := 52) rfl ?_); refine gL (some 19) Try.func52 #[.string (rdOf ByteArray.empty l0 x12_1)] rfl ?_; (with_reducible refine (impl_readHyphens.calls k1 (rdOf ByteArray.empty l0 x12_1) t160 t161 true _ A6.out).mono ?_); rintro e w17 ⟨v162, rfl, ho0, hb⟩; refine ⟨_, rfl, ?_⟩; have HO163 := am (Kd.R_lower ho0 (below_size (w := w) i_)); replace HB := am (below_step (w := w) i_ hb); (try clear hb); (try clear hb2); (try clear hk); (try clear hi); (try clear ho0)) | ((with_reducible refine gate_dst (N := 5) rfl ?_); refine bX (N := 5) (cs := #[.string (⟨#[]⟩ : ByteArray), .slice none 0 0]) (t := 78) ?_; intro gb165 hg w18 hbox hb; have BK165 := am (hbox); have GW165 := am ((by rw [hg]; exact (below_size (w := w) i_) : w.heap.size ≤ gb165)); have GE165 := am ((by rw [hg]; exact (below_size (w := w) i_) : w.heap.size ≤ gb165)); replace HO163 := am (rB HO163.out i_ hb); replace HB := am (below_step (w := w) i_ hb); clear hb hbox hg; have hcz19 := bc2 BK165.out; obtain ⟨Ao20, co20, eo20⟩ := Kd.R_slice HO163.out; subst eo20; have p166 : 0 ≤ ((ji9) : Int) := of_decide_eq_true (by first | (with_reducible assumption) | assumption); have q166 : (ji9) < (l0.length : Int) := of_decide_eq_true (by first | (with_reducible assumption) | assumption); obtain ⟨ad166, e166, hx166_0⟩ := Kd.at_string HR0.out (ji9) p166 q166; obtain rfl : ad159 = ad166 := (by injection e166); have hn166_0 : ad159.block ≠ gb165 := Nat.ne_of_lt (Nat.lt_of_lt_of_le (by have := World.block_lt_of_cell? _ _ hx166_0; first | rwa [add_block] at this | exact this) GW165.out); have hn166_1 : ad159.block ≠ gb165 := Nat.ne_of_lt (Nat.lt_of_lt_of_le (by have := World.block_lt_of_cell? _ _ hx166_0; first | rwa [add_block] at this | exact this) GW165.out); replace hx166_0 := (HB.out.cell (World.block_lt_of_cell? w _ hx166_0)).trans hx166_0; replace hx166_0 := (cell_far (p := ⟨gb165, 0, none⟩) (by first | (rw [add_block]; exact hn166_0) | (show (Addr.add _ _).block ≠ _; rw [add_block]; exact hn166_0) | exact hn166_0) (.string t160)).trans hx166_0; replace hx166_0 := (cell_far (p := ⟨gb165, 1, none⟩) (by first | (rw [add_block]; exact hn166_1) | (show (Addr.add _ _).block ≠ _; rw [add_block]; exact hn166_1) | exact hn166_1) (.slice Ao20 t161.length co20)).trans hx166_0; clear hn166_0; clear hn166_1; replace p166 := eq_true p166; replace q166 := eq_true q166))
                        go_ret
                        exact ⟨by first | rfl | (simp [errW_none, errW_some] <;> rfl) | (simp only [← hji9]; first | rfl | (simp [errW_none, errW_some] <;> rfl)) | (simp [*, errW_none, errW_some] <;> rfl), i_⟩
                    · rw [if_neg c11] at H
                      exact absurd H (by simp)
                  · rw [if_neg c10] at H
                    exact absurd H (by simp)
                · rw [if_neg c8] at H
                  have c8b0 : decide (0 < x12_1) = false := decide_eq_false c8
                  clear c8
                  have H' := am H
                  clear H
                  have p159 : 0 ≤ (x12_1 : Int) := of_decide_eq_true (by first | (with_reducible assumption) | assumption)
                  have q159 : x12_1 < (l0.length : Int) := of_decide_eq_true (by first | (with_reducible assumption) | assumption)
                  obtain ⟨ad159, e159, hx159_0⟩ := Kd.at_string HR0.out x12_1 p159 q159
                  cases e159
                  replace hx159_0 := (HB.out.cell (World.block_lt_of_cell? w _ hx159_0)).trans hx159_0
                  replace p159 := eq_true p159
                  replace q159 := eq_true q159
                  go_wp2_with (first | ((with_reducible refine gate_callee (f := 52) rfl ?_); refine gL (some 19) Try.func52 #[.string (rdOf ByteArray.empty l0 x12_1)] rfl ?_; (with_reducible refine (impl_readHyphens.calls k1 (rdOf ByteArray.empty l0 x12_1) t160 t161 true _ A6.out).mono ?_); rintro e w21 ⟨v162, rfl, ho0, hb⟩; refine ⟨_, rfl, ?_⟩; have HO163 := am (Kd.R_lower ho0 (below_size (w := w) i_)); replace HB := am (below_step (w := w) i_ hb); (try clear hb); (try clear hb2); (try clear hk); (try clear hi); (try clear ho0)) | ((with_reducible refine gate_dst (N := 5) rfl ?_); refine bX (N := 5) (cs := #[.string (⟨#[]⟩ : ByteArray), .slice none 0 0]) (t := 78) ?_; intro gb165 hg w22 hbox hb; have BK165 := am (hbox); have GW165 := am ((by rw [hg]; exact (below_size (w := w) i_) : w.heap.size ≤ gb165)); have GE165 := am ((by rw [hg]; exact (below_size (w := w) i_) : w.heap.size ≤ gb165)); replace HO163 := am (rB HO163.out i_ hb); replace HB := am (below_step (w := w) i_ hb); clear hb hbox hg; have hcz23 := bc2 BK165.out; obtain ⟨Ao24, co24, eo24⟩ := Kd.R_slice HO163.out; subst eo24))
                  go_roundg k1
                  case measure => have := HK1.out; omega
                  case rel => exact ⟨(wrap64 (x12_1 + 1)), (by first | rfl | (simp; done) | (simp [*]; done)), H', ⟨by have := HK1.out; omega⟩, ⟨i_⟩⟩
              · replace c7 := Bool.eq_false_iff.mpr c7
                subst c7
                have H1 : (some 1) = some r := by rw [if_neg (show ¬ (false = true) by decide)] at H; exact H
                clear H
                have H := H1
                clear H1
                obtain rfl := Option.some.inj H
                have p159 : 0 ≤ (x12_1 : Int) := of_decide_eq_true (by first | (with_reducible assumption) | assumption)
                have q159 : x12_1 < (l0.length : Int) := of_decide_eq_true (by first | (with_reducible assumption) | assumption)
                obtain ⟨ad159, e159, hx159_0⟩ := Kd.at_string HR0.out x12_1 p159 q159
                cases e159
                replace hx159_0 := (HB.out.cell (World.block_lt_of_cell? w _ hx159_0)).trans hx159_0
                replace p159 := eq_true p159
                replace q159 := eq_true q159
                go_wp2_with (first | ((with_reducible refine gate_callee (f := 52) rfl ?_); refine gL (some 19) Try.func52 #[.string (rdOf ByteArray.empty l0 x12_1)] rfl ?_; (with_reducible refine (impl_readHyphens.calls k1 (rdOf ByteArray.empty l0 x12_1) t160 t161 false _ A6.out).mono ?_); rintro e w25 ⟨v162, rfl, ho0, hb⟩; refine ⟨_, rfl, ?_⟩; have HO163 := am (Kd.R_lower ho0 (below_size (w := w) i_)); replace HB := am (below_step (w := w) i_ hb); (try clear hb); (try clear hb2); (try clear hk); (try clear hi); (try clear ho0)) | ((with_reducible refine gate_dst (N := 5) rfl ?_); refine bX (N := 5) (cs := #[.string (⟨#[]⟩ : ByteArray), .slice none 0 0]) (t := 78) ?_; intro gb165 hg w26 hbox hb; have BK165 := am (hbox); have GW165 := am ((by rw [hg]; exact (below_size (w := w) i_) : w.heap.size ≤ gb165)); have GE165 := am ((by rw [hg]; exact (below_size (w := w) i_) : w.heap.size ≤ gb165)); replace HO163 := am (rB HO163.out i_ hb); replace HB := am (below_step (w := w) i_ hb); clear hb hbox hg; have hcz27 := bc2 BK165.out; obtain ⟨Ao28, co28, eo28⟩ := Kd.R_slice HO163.out; subst eo28))
                go_ret
                exact ⟨by first | rfl | (simp [errW_none, errW_some] <;> rfl) | (simp [*, errW_none, errW_some] <;> rfl), i_⟩
            · rw [if_neg c5] at H
              exact absurd H (by simp)
          · rw [if_neg c4] at H
            exact absurd H (by simp)
        · rw [if_neg c3] at H
          have c3b0 : decide (x12_1 < (l0.length : Int)) = false := decide_eq_false c3
          clear c3
          obtain rfl := Option.some.inj H
          go_wp2
          go_ret
          exact ⟨by first | rfl | (simp [errW_none, errW_some] <;> rfl) | (simp [*, errW_none, errW_some] <;> rfl), i_⟩

/-! ### laws_eqStringS: function 23 -/
def laws_eqStringS.l0 : Nat → List ByteArray → List ByteArray → Int → Option (Bool)
  | 0, _, _, _ => none
  | k + 1, x0, x1, x5 => if x5 < (x0.length : Int) then (if 0 ≤ x5 then (if x5 < (x1.length : Int) then (if (rdOf ByteArray.empty x0 x5).toList = (rdOf ByteArray.empty x1 x5).toList then (laws_eqStringS.l0 k x0 x1 (wrap64 (x5 + 1))) else (none)) else (none)) else (none)) else (some true)
def laws_eqStringS.f (k : Nat) (l0 : List ByteArray) (l1 : List ByteArray) : Option (Bool) := if (l0.length : Int) = (l1.length : Int) then (laws_eqStringS.l0 k l0 l1 0) else (none)
theorem laws_eqStringS.mono_l : ∀ k, (∀ y0 y1 y2, LeO (laws_eqStringS.l0 k y0 y1 y2) (laws_eqStringS.l0 (k + 1) y0 y1 y2))
  | 0 => fun _ _ _ r h => by simp [laws_eqStringS.l0] at h
  | k + 1 => by
    have ih0 := laws_eqStringS.mono_l k
    · intro y0 y1 y2
      unfold laws_eqStringS.l0
      repeat' first
      | (with_reducible exact ih0 _ _ _)
      | (with_reducible exact LeO.refl _)
      | (with_reducible exact LeO.none _)
      | (with_reducible refine LeO.ite ?_ ?_)
      | (with_reducible refine LeO.bind ?_ (fun _ => ?_))
      | exact ih0 _ _ _
      | exact LeO.none _
      | refine LeO.ite ?_ ?_
      | refine LeO.bind ?_ (fun _ => ?_)
theorem laws_eqStringS.mono : ∀ a0 a1 k, LeO (laws_eqStringS.f k a0 a1) (laws_eqStringS.f (k + 1) a0 a1) := by
  intro a0 a1 k
  have ih0 := laws_eqStringS.mono_l k
  unfold laws_eqStringS.f
  repeat' first
      | (with_reducible exact ih0 _ _ _)
      | (with_reducible exact LeO.refl _)
      | (with_reducible exact LeO.none _)
      | (with_reducible refine LeO.ite ?_ ?_)
      | (with_reducible refine LeO.bind ?_ (fun _ => ?_))
      | exact ih0 _ _ _
      | exact LeO.none _
      | refine LeO.ite ?_ ?_
      | refine LeO.bind ?_ (fun _ => ?_)
set_option maxHeartbeats 8000000 in
set_option maxRecDepth 100000 in
theorem laws_eqStringS.calls (k : Nat) (A0 : Option Addr) (c0 : Nat) (l0 : List ByteArray) (A1 : Option Addr) (c1 : Nat) (l1 : List ByteArray) (r : Bool) (w : World) (hr0 : Kd.C Kd.string w A0 l0.length l0) (hc0 : l0.length ≤ c0) (hr1 : Kd.C Kd.string w A1 l1.length l1) (hc1 : l1.length ≤ c1) (h : laws_eqStringS.f k l0 l1 = some r) :
    Calls Try.prog 23 #[.slice A0 l0.length c0, .slice A1 l1.length c1] w fun e w' => e = .returned (.bool r) ∧ Drawn0 w w' := by
  have HR0 := am hr0
  have HC0 := am hc0
  clear hr0 hc0
  have HR1 := am hr1
  have HC1 := am hc1
  clear hr1 hc1
  have H : (if (l0.length : Int) = (l1.length : Int) then (laws_eqStringS.l0 k l0 l1 0) else (none)) = some r := h
  clear h
  by_cases c3 : (l0.length : Int) = (l1.length : Int)
  · rw [if_pos c3] at H
    have c3b0 : ((l0.length : Int) == (l1.length : Int)) = true := beq_iff_eq.mpr c3
    have c3b1 : ((l0.length : Int) != (l1.length : Int)) = false := bne_eq_false_iff_eq.mpr c3
    have c3b2 : (l0.length == l1.length) = true := by first | simpa using c3 | (simp at c3 ⊢; omega)
    clear c3
    have H' := am H
    clear H
    go_enter Try.func23, Try.ntmps23
    go_wp2
    repeat (go_quiet (fail); try go_wp2)
    go_loopg [5] k (fun kq v5 w' => ∃ (x5_1 : Int), v5 = .int .i64 x5_1 ∧ Fc (laws_eqStringS.l0 kq l0 l1 x5_1 = some r) ∧ Fc (kq ≤ k) ∧ Drawn0 w w')
    case atStart => exact ⟨(0), (by first | rfl | (simp; done) | (simp [*]; done)), H', ⟨Nat.le_refl _⟩, by repeat (first | exact Drawn0.refl _ | apply Drawn0.step)⟩
    case round =>
      clear H'
      (try clear c1); (try clear c2); (try clear p2); (try clear c3); (try clear c3b0); (try clear c3b1); (try clear c3b2)
      obtain ⟨x5_1, rfl, HA, HK1, ⟨m1, rfl⟩⟩ := hrel
      cases gk with
      | zero => exact absurd HA.out (by simp [laws_eqStringS.l0])
      | succ k1 =>
        have H := HA.out
        clear HA
        simp only [laws_eqStringS.l0] at H
        by_cases c4 : x5_1 < (l0.length : Int)
        · rw [if_pos c4] at H
          have c4b0 : decide (x5_1 < (l0.length : Int)) = true := decide_eq_true c4
          clear c4
          by_cases c5 : 0 ≤ x5_1
          · rw [if_pos c5] at H
            have c5b0 : decide (0 ≤ x5_1) = true := decide_eq_true c5
            clear c5
            by_cases c6 : x5_1 < (l1.length : Int)
            · rw [if_pos c6] at H
              have c6b0 : decide (x5_1 < (l1.length : Int)) = true := decide_eq_true c6
              clear c6
              by_cases c7 : (rdOf ByteArray.empty l0 x5_1).toList = (rdOf ByteArray.empty l1 x5_1).toList
              · rw [if_pos c7] at H
                have c7b0 : ((rdOf ByteArray.empty l0 x5_1).toList == (rdOf ByteArray.empty l1 x5_1).toList) = true := beq_iff_eq.mpr c7
                have c7b1 : ((rdOf ByteArray.empty l0 x5_1).toList != (rdOf ByteArray.empty l1 x5_1).toList) = false := bne_eq_false_iff_eq.mpr c7
                clear c7
                have H' := am H
                clear H
                have p167 : 0 ≤ (x5_1 : Int) := of_decide_eq_true (by first | (with_reducible assumption) | assumption)
                have q167 : x5_1 < (l0.length : Int) := of_decide_eq_true (by first | (with_reducible assumption) | assumption)
                obtain ⟨ad167, e167, hx167_0⟩ := Kd.at_string HR0.out x5_1 p167 q167
                cases e167
                replace p167 := eq_true p167
                replace q167 := eq_true q167
                have p168 : 0 ≤ (x5_1 : Int) := of_decide_eq_true (by first | (with_reducible assumption) | assumption)
                have q168 : x5_1 < (l1.length : Int) := of_decide_eq_true (by first | (with_reducible assumption) | assumption)
                obtain ⟨ad168, e168, hx168_0⟩ := Kd.at_string HR1.out x5_1 p168 q168
                cases e168
                replace p168 := eq_true p168
                replace q168 := eq_true q168
                go_wp2
                repeat (go_quiet (fail); try go_wp2)
                go_roundg k1
                case measure => have := HK1.out; omega
                case rel => exact ⟨(wrap64 (x5_1 + 1)), (by first | rfl | (simp; done) | (simp [*]; done)), H', ⟨by have := HK1.out; omega⟩, by repeat (first | exact Drawn0.refl _ | apply Drawn0.step)⟩
              · rw [if_neg c7] at H
                exact absurd H (by simp)
            · rw [if_neg c6] at H
              exact absurd H (by simp)
          · rw [if_neg c5] at H
            exact absurd H (by simp)
        · rw [if_neg c4] at H
          have c4b0 : decide (x5_1 < (l0.length : Int)) = false := decide_eq_false c4
          clear c4
          obtain rfl := Option.some.inj H
          go_wp2
          repeat (go_quiet (fail); try go_wp2)
          go_ret
          exact ⟨by first | rfl | (simp; done) | (simp [*]; done), by repeat (first | exact Drawn0.refl _ | apply Drawn0.step)⟩
  · rw [if_neg c3] at H
    exact absurd H (by simp)

end Go.Proofs.Ytopbiepiceajnaa.H
