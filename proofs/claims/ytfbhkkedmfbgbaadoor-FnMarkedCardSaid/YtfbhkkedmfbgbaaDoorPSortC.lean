/- slices.SortStableFunc, plainly, third part: merged, put in by one, run by run; the row in order. -/
import Derived.Test.YtfbhkkedmfbgbaaDoorPSortB
namespace Go.Proofs.YtfbhkkedmfbgbaaDoor.PM.St
open Go.Eng Go.RowKit
set_option linter.unusedVariables false
set_option linter.unusedSimpArgs false
section
variable {α : Type} {z : α} {kf : α → Int} {ix : Int → Int} {nn : List α → Int} {cmp : Nat → α → α → Option Int}
theorem chk_cut {n : Nat} {l : List α} (h : Chk kf n l) (hl : n < l.length) : ∃ c r, l = c ++ r ∧ c.length = n ∧ Srt kf c ∧ Chk kf n r := by
  cases h with
  | last _ h1 _ => omega
  | more c r h1 h2 h3 => exact ⟨c, r, rfl, h1, h2, h3⟩
variable (S : SEq z ix nn cmp) (o w : Nat) (hix : ∀ i, ix i = (o : Int) + i) (T : Nat) (hnn : ∀ l : List α, l.length = T → nn l = (w : Int)) (hw : w ≤ 549755813888)
  (hcmp : ∀ x y, ∃ c, Ev (fun k => cmp k x y) c ∧ (c < 0 ↔ kf x < kf y))
include hix hnn hw hcmp
theorem sym_ev : ∀ (t a : Nat) (A X Y B : List α), X.length + Y.length ≤ t → A.length = o + a → 0 < X.length → 0 < Y.length → a + X.length + Y.length ≤ w → (A ++ (X ++ (Y ++ B))).length = T → Srt kf X → Srt kf Y →
    ∃ out, Same kf (X ++ Y) out ∧ Srt kf out ∧ Ev (fun k => S.symF k (a : Int) ((a + X.length : Nat) : Int) ((a + X.length + Y.length : Nat) : Int) (A ++ (X ++ (Y ++ B)))) ((), A ++ (out ++ B))
  | 0, a, A, X, Y, B, ht, hA, hX, hY, hl, hT, sX, sY => by omega
  | t + 1, a, A, X, Y, B, ht, hA, hX, hY, hl, hT, sX, sY => by
    have e := fun k => S.symF_eq k (a : Int) ((a + X.length : Nat) : Int) ((a + X.length + Y.length : Nat) : Int) (A ++ (X ++ (Y ++ B)))
    have e1 : subI .i64 ((a + X.length : Nat) : Int) (a : Int) = (X.length : Int) := by rw [subI_i64 (by omega) (by omega)]; omega
    have e2 : subI .i64 ((a + X.length + Y.length : Nat) : Int) ((a + X.length : Nat) : Int) = (Y.length : Int) := by rw [subI_i64 (by omega) (by omega)]; omega
    simp only [e1, e2] at e
    by_cases c1 : X.length = 1
    · obtain ⟨x, rfl⟩ := List.length_eq_one_iff.1 c1
      obtain ⟨out, h1, h2, h3⟩ := one_up S o w hix T hnn hw hcmp a A Y B x hA (by simpa using hl) (by simpa using hT) sY
      refine ⟨out, h1, h2, Ev.step (f := fun k => S.symL3 k k (a : Int) ((a + 1 : Nat) : Int) ((a + 1 + Y.length : Nat) : Int) (A ++ x :: (Y ++ B))) (fun k => ?_) (Ev2.ev (g := fun k q => S.symL3 k q (a : Int) ((a + 1 : Nat) : Int) ((a + 1 + Y.length : Nat) : Int) (A ++ x :: (Y ++ B))) h3)⟩
      rw [e k]
      simp only [W, W1, List.length_singleton, if_pos (show ((1 : Nat) : Int) = 1 from rfl)]
      simp
    · have c1' : ¬ ((X.length : Int) = 1) := by omega
      by_cases c2 : Y.length = 1
      · obtain ⟨y, rfl⟩ := List.length_eq_one_iff.1 c2
        obtain ⟨out, h1, h2, h3⟩ := one_down S o w hix T hnn hw hcmp a A X B y hA (by simp at hl; omega) (by simpa using hT) sX
        refine ⟨out, h1, h2, Ev.step (f := fun k => S.symL15 k k ((a + X.length : Nat) : Int) (a : Int) ((a + X.length : Nat) : Int) (A ++ (X ++ y :: B))) (fun k => ?_) (Ev2.ev (g := fun k q => S.symL15 k q ((a + X.length : Nat) : Int) (a : Int) ((a + X.length : Nat) : Int) (A ++ (X ++ y :: B))) h3)⟩
        rw [e k]
        simp only [W, W1, if_neg c1', List.length_singleton, if_pos (show ((1 : Nat) : Int) = 1 from rfl)]
        simp
      · have c2' : ¬ ((Y.length : Int) = 1) := by omega
        obtain ⟨mid, hmid⟩ : ∃ m, m = (a + (a + X.length + Y.length)) / 2 := ⟨_, rfl⟩
        have hm : mdI (a : Int) ((a + X.length + Y.length : Nat) : Int) = (mid : Int) := by rw [mdI_nat _ _ (by omega) (by omega), hmid]
        have en : addI .i64 (mid : Int) ((a + X.length : Nat) : Int) = ((mid + (a + X.length) : Nat) : Int) := by rw [addI_i64 (by omega) (by omega)]; omega
        have ep : subI .i64 ((mid + (a + X.length) : Nat) : Int) 1 = ((mid + (a + X.length) - 1 : Nat) : Int) := by rw [subI_i64 (by omega) (by omega)]; omega
        have hcut : ∃ s0 r0 : Nat, ((mid < a + X.length ∧ s0 = mid + (a + X.length) - (a + X.length + Y.length) ∧ r0 = mid) ∨ (a + X.length ≤ mid ∧ s0 = a ∧ r0 = a + X.length)) ∧
            ∀ k, S.symF (k + 1) (a : Int) ((a + X.length : Nat) : Int) ((a + X.length + Y.length : Nat) : Int) (A ++ (X ++ (Y ++ B))) = S.symL33 k k (a : Int) ((a + X.length : Nat) : Int) ((a + X.length + Y.length : Nat) : Int) (mid : Int) ((mid + (a + X.length) : Nat) : Int) (s0 : Int) (r0 : Int) ((mid + (a + X.length) - 1 : Nat) : Int) (A ++ (X ++ (Y ++ B))) := by
          by_cases c3 : mid < a + X.length
          · refine ⟨_, _, .inl ⟨c3, rfl, rfl⟩, fun k => ?_⟩
            have es : subI .i64 ((mid + (a + X.length) : Nat) : Int) ((a + X.length + Y.length : Nat) : Int) = ((mid + (a + X.length) - (a + X.length + Y.length) : Nat) : Int) := by rw [subI_i64 (by omega) (by omega)]; omega
            rw [e k, hm, en, ep, es]
            simp only [W, W1, if_neg c1', if_neg c2', if_pos (show (0 : Int) ≤ 1 by omega), if_pos (show (mid : Int) < ((a + X.length : Nat) : Int) by omega)]
          · refine ⟨_, _, .inr ⟨by omega, rfl, rfl⟩, fun k => ?_⟩
            rw [e k, hm, en, ep]
            simp only [W, W1, if_neg c1', if_neg c2', if_pos (show (0 : Int) ≤ 1 by omega), if_neg (show ¬ (mid : Int) < ((a + X.length : Nat) : Int) by omega)]
        obtain ⟨s0, r0, hsr, hF⟩ := hcut
        obtain ⟨s, q1, q2, q3, X1, X2, Y1, Y2, hXe, hYe, lX1, has, lY1, o1, o2⟩ := cut_ev S o w hix T hnn hw hcmp a A X Y B hA (by omega) (by omega) hl hT sX sY mid (mid + (a + X.length)) s0 r0 hmid rfl hsr
        have lX : X.length = X1.length + X2.length := by rw [hXe, List.length_append]
        have lY : Y.length = Y1.length + Y2.length := by rw [hYe, List.length_append]
        have hsm : s ≤ mid := by rcases hsr with ⟨h1, h2, h3⟩ | ⟨h1, h2, h3⟩ <;> omega
        have es : subI .i64 ((mid + (a + X.length) : Nat) : Int) (s : Int) = ((mid + (a + X.length) - s : Nat) : Int) := by rw [subI_i64 (by omega) (by omega)]; omega
        have hsXY : Srt kf X1 ∧ Srt kf X2 ∧ Srt kf Y1 ∧ Srt kf Y2 := by
          have h1 := srt_app.1 (hXe ▸ sX)
          have h2 := srt_app.1 (hYe ▸ sY)
          exact ⟨h1.1, h1.2.1, h2.1, h2.2.1⟩
        obtain ⟨sX1, sX2, sY1, sY2⟩ := hsXY
        -- the halves merged
        have left : ∃ u, Same kf (X1 ++ Y1) u ∧ Srt kf u ∧ ∀ r, Ev (fun k => S.symJ43 k ((a + X.length + Y.length : Nat) : Int) (mid : Int) ((mid + (a + X.length) - s : Nat) : Int) (A ++ (u ++ (X2 ++ (Y2 ++ B))))) r →
            Ev (fun k => S.symJ41 k (a : Int) ((a + X.length + Y.length : Nat) : Int) (mid : Int) (s : Int) ((mid + (a + X.length) - s : Nat) : Int) (A ++ (X1 ++ (Y1 ++ (X2 ++ (Y2 ++ B)))))) r := by
          by_cases g1 : a < s
          · by_cases g2 : s < mid
            · obtain ⟨u, u1, u2, u3⟩ := sym_ev t a A X1 Y1 (X2 ++ (Y2 ++ B)) (by omega) hA (by omega) (by omega) (by omega) (by rw [← hT, hXe, hYe]; simp only [List.length_append]; omega) sX1 sY1
              refine ⟨u, u1, u2, fun r hr => Ev.congr (fun k => ?_) (Ev.bind u3 (f := fun k r0 => S.symJ43 k ((a + X.length + Y.length : Nat) : Int) (mid : Int) ((mid + (a + X.length) - s : Nat) : Int) r0.2) hr)⟩
              rw [S.symJ41_eq]
              simp only [W, W1, W3, if_pos (show (a : Int) < (s : Int) by omega), if_pos (show (s : Int) < (mid : Int) by omega)]
              rw [show a + X1.length = s by omega, show s + Y1.length = mid by omega]
            · refine ⟨X1, ?_, sX1, fun r hr => Ev.congr (fun k => ?_) hr⟩
              · rw [List.length_eq_zero_iff.1 (show Y1.length = 0 by omega), List.append_nil]; exact Same.refl _
              · rw [S.symJ41_eq]
                simp only [W, W1, W3, if_pos (show (a : Int) < (s : Int) by omega), if_neg (show ¬ (s : Int) < (mid : Int) by omega)]
                rw [List.length_eq_zero_iff.1 (show Y1.length = 0 by omega), List.nil_append]
          · refine ⟨Y1, ?_, sY1, fun r hr => Ev.congr (fun k => ?_) hr⟩
            · rw [List.length_eq_zero_iff.1 (show X1.length = 0 by omega), List.nil_append]; exact Same.refl _
            · rw [S.symJ41_eq]
              simp only [W, W1, W3, if_neg (show ¬ (a : Int) < (s : Int) by omega)]
              rw [List.length_eq_zero_iff.1 (show X1.length = 0 by omega), List.nil_append]
        obtain ⟨u, u1, u2, u3⟩ := left
        have lu : u.length = mid - a := by have := u1.1; rw [List.length_append] at this; omega
        have right : ∃ v, Same kf (X2 ++ Y2) v ∧ Srt kf v ∧ Ev (fun k => S.symJ43 k ((a + X.length + Y.length : Nat) : Int) (mid : Int) ((mid + (a + X.length) - s : Nat) : Int) (A ++ (u ++ (X2 ++ (Y2 ++ B))))) ((), A ++ (u ++ (v ++ B))) := by
          by_cases g1 : mid < mid + (a + X.length) - s
          · by_cases g2 : mid + (a + X.length) - s < a + X.length + Y.length
            · obtain ⟨v, v1, v2, v3⟩ := sym_ev t mid (A ++ u) X2 Y2 B (by omega) (by rw [List.length_append]; omega) (by omega) (by omega) (by omega) (by rw [← hT, hXe, hYe]; simp only [List.length_append]; omega) sX2 sY2
              refine ⟨v, v1, v2, Ev.congr (fun k => ?_) (Ev.bind v3 (f := fun k r0 => some ((), r0.2)) (r := ((), A ++ (u ++ (v ++ B)))) ?_)⟩
              · rw [S.symJ43_eq]
                simp only [W, W1, W3, if_pos (show (mid : Int) < ((mid + (a + X.length) - s : Nat) : Int) by omega), if_pos (show ((mid + (a + X.length) - s : Nat) : Int) < ((a + X.length + Y.length : Nat) : Int) by omega)]
                rw [show mid + X2.length = mid + (a + X.length) - s by omega, show mid + (a + X.length) - s + Y2.length = a + X.length + Y.length by omega, List.append_assoc]
              · simp only [List.append_assoc]
                exact Ev.now _
            · refine ⟨X2, ?_, sX2, Ev.of fun k => ?_⟩
              · rw [List.length_eq_zero_iff.1 (show Y2.length = 0 by omega), List.append_nil]; exact Same.refl _
              · rw [S.symJ43_eq]
                simp only [W, W1, W3, if_pos (show (mid : Int) < ((mid + (a + X.length) - s : Nat) : Int) by omega), if_neg (show ¬ ((mid + (a + X.length) - s : Nat) : Int) < ((a + X.length + Y.length : Nat) : Int) by omega)]
                rw [List.length_eq_zero_iff.1 (show Y2.length = 0 by omega), List.nil_append]
          · refine ⟨Y2, ?_, sY2, Ev.of fun k => ?_⟩
            · rw [List.length_eq_zero_iff.1 (show X2.length = 0 by omega), List.nil_append]; exact Same.refl _
            · rw [S.symJ43_eq]
              simp only [W, W1, W3, if_neg (show ¬ (mid : Int) < ((mid + (a + X.length) - s : Nat) : Int) by omega)]
              rw [List.length_eq_zero_iff.1 (show X2.length = 0 by omega), List.nil_append]
        obtain ⟨v, v1, v2, v3⟩ := right
        have hJ := u3 _ v3
        obtain ⟨hs1, hs2⟩ := cut_srt (hXe ▸ sX) (hYe ▸ sY) o1 o2 u1 v1 u2 v2
        refine ⟨u ++ v, by rw [hXe, hYe]; exact hs1, hs2, Ev.step hF (Ev2.ev (g := fun k q => S.symL33 k q (a : Int) ((a + X.length : Nat) : Int) ((a + X.length + Y.length : Nat) : Int) (mid : Int) ((mid + (a + X.length) : Nat) : Int) (s0 : Int) (r0 : Int) ((mid + (a + X.length) - 1 : Nat) : Int) (A ++ (X ++ (Y ++ B)))) (q3 _ ?_))⟩
        rw [show A ++ (u ++ v ++ B) = A ++ (u ++ (v ++ B)) by simp]
        simp only [es]
        by_cases g1 : s < a + X.length
        · by_cases g2 : a + X.length < mid + (a + X.length) - s
          · have hr := rot_ev S o w hix T hnn (by omega) s (a + X.length) (mid + (a + X.length) - s) (A ++ X1) X2 Y1 (Y2 ++ B) (by omega) (by omega) (by rw [List.length_append]; omega) (by omega) (by omega) (by omega) (by rw [← hT, hXe, hYe]; simp only [List.length_append]; omega)
            have e5 : A ++ X1 ++ (X2 ++ (Y1 ++ (Y2 ++ B))) = A ++ (X ++ (Y ++ B)) := by rw [hXe, hYe]; simp
            have e6 : A ++ X1 ++ (Y1 ++ (X2 ++ (Y2 ++ B))) = A ++ (X1 ++ (Y1 ++ (X2 ++ (Y2 ++ B)))) := by simp
            rw [e5, e6] at hr
            refine Ev.congr (fun k => ?_) (Ev.bind hr (f := fun k r0 => S.symJ41 k (a : Int) ((a + X.length + Y.length : Nat) : Int) (mid : Int) (s : Int) ((mid + (a + X.length) - s : Nat) : Int) r0.2) hJ)
            simp only [W, W1, W3, if_pos (show (s : Int) < ((a + X.length : Nat) : Int) by omega), if_pos (show ((a + X.length : Nat) : Int) < ((mid + (a + X.length) - s : Nat) : Int) by omega)]
          · have e6 : A ++ (X1 ++ (Y1 ++ (X2 ++ (Y2 ++ B)))) = A ++ (X ++ (Y ++ B)) := by
              have : Y1 = [] := List.length_eq_zero_iff.1 (by omega)
              rw [hXe, hYe, this]; simp
            rw [e6] at hJ
            refine Ev.congr (fun k => ?_) hJ
            simp only [W, W1, W3, if_pos (show (s : Int) < ((a + X.length : Nat) : Int) by omega), if_neg (show ¬ ((a + X.length : Nat) : Int) < ((mid + (a + X.length) - s : Nat) : Int) by omega)]
        · have e6 : A ++ (X1 ++ (Y1 ++ (X2 ++ (Y2 ++ B)))) = A ++ (X ++ (Y ++ B)) := by
            have : X2 = [] := List.length_eq_zero_iff.1 (by omega)
            rw [hXe, hYe, this]; simp
          rw [e6] at hJ
          refine Ev.congr (fun k => ?_) hJ
          simp only [W, W1, W3, if_neg (show ¬ (s : Int) < ((a + X.length : Nat) : Int) by omega)]
/-! ### put in one by one -/
theorem put_ev (a b i : Nat) (C : List α) (x : α) : ∀ (n : Nat) (s1 A s2 : List α), s1.length = n → A.length = o + a → a + n < w → (A ++ (s1 ++ x :: (s2 ++ C))).length = T → Srt kf (s1 ++ s2) → (∀ q ∈ s2, kf x < kf q) →
    ∃ u, Same kf (s1 ++ s2 ++ [x]) u ∧ Srt kf u ∧ ∀ r, Ev2 (fun k q => S.insL1 k q (a : Int) (b : Int) (addI .i64 (i : Int) 1) (A ++ (u ++ C))) r → Ev3 (fun k q p => S.insL4 k q p (a : Int) (b : Int) (i : Int) ((a + n : Nat) : Int) (A ++ (s1 ++ x :: (s2 ++ C)))) r
  | 0, s1, A, s2, hn, hA, hl, hT, hs, hg => by
    obtain rfl := List.length_eq_zero_iff.1 hn
    refine ⟨x :: s2, ?_, ?_, fun r hr => Ev3.step (f := fun k q p => S.insL1 k q (a : Int) (b : Int) (addI .i64 (i : Int) 1) (A ++ (x :: s2 ++ C))) (fun k q p => ?_) hr.three⟩
    · rw [List.nil_append]
      exact Same.turn fun p hp q hq => by rw [List.mem_singleton.1 hq]; exact hg p hp
    · exact srt_cons.2 ⟨fun q hq => Int.le_of_lt (hg q hq), hs⟩
    · rw [S.insL4_eq]
      simp only [W, W1, Nat.add_zero, if_neg (Int.lt_irrefl _), List.nil_append, List.cons_append]
  | n + 1, s1, A, s2, hn, hA, hl, hT, hs, hg => by
    obtain ⟨s1, y, rfl⟩ : ∃ l y, s1 = l ++ [y] := ⟨s1.dropLast, s1.getLast (fun h => by rw [h] at hn; cases hn), (List.dropLast_concat_getLast _).symm⟩
    have hn' : s1.length = n := by simpa using hn
    have es : subI .i64 ((a + (n + 1) : Nat) : Int) 1 = ((a + n : Nat) : Int) := by rw [subI_i64 (by omega) (by omega)]; omega
    have x0 : ix ((a + n : Nat) : Int) = ((A ++ s1).length : Int) := by rw [hix, List.length_append]; omega
    have x1 : ix ((a + (n + 1) : Nat) : Int) = (((A ++ s1).length + 1 + ([] : List α).length : Nat) : Int) := by rw [hix, List.length_nil, List.length_append]; omega
    have r0 := rd_lo (A ++ s1) [] (s2 ++ C) y x z
    have r1 := rd_hi (A ++ s1) [] (s2 ++ C) y x z
    have sw := sw_hi (A ++ s1) [] (s2 ++ C) y x
    have hd : A ++ (s1 ++ [y] ++ x :: (s2 ++ C)) = (A ++ s1) ++ y :: ([] ++ x :: (s2 ++ C)) := by simp
    rw [hd] at hT
    have e := fun k q p => S.insL4_eq k q p (a : Int) (b : Int) (i : Int) ((a + (n + 1) : Nat) : Int) ((A ++ s1) ++ y :: ([] ++ x :: (s2 ++ C)))
    simp only [W, W1, W2, W3, es, x0, x1, r0, r1, Int.toNat_natCast, sw, hnn _ hT, hnn (((A ++ s1) ++ y :: ([] ++ x :: (s2 ++ C))).set ((A ++ s1).length + 1 + ([] : List α).length) y) (by rw [List.length_set]; exact hT), if_pos (nat_ge (a + n)), if_pos (nat_ge (a + (n + 1))),
      if_pos (show (a : Int) < ((a + (n + 1) : Nat) : Int) by omega), if_pos (show ((a + n : Nat) : Int) < (w : Int) by omega), if_pos (show ((a + (n + 1) : Nat) : Int) < (w : Int) by omega)] at e
    obtain ⟨c, hc, hc2⟩ := hcmp x y
    obtain ⟨p1, p2, p3⟩ := srt_app.1 hs
    by_cases g : kf x < kf y
    · have hs' : Srt kf (s1 ++ ([y] ++ s2)) := by rw [← List.append_assoc]; exact hs
      obtain ⟨u, u1, u2, u3⟩ := put_ev a b i C x n s1 A ([y] ++ s2) hn' hA (by omega) (by rw [← hT]; simp only [List.length_append, List.length_cons, List.length_nil]; omega) hs' (fun q hq => by
        rcases List.mem_append.1 hq with h | h
        · rw [List.mem_singleton.1 h]; exact g
        · exact hg q h)
      refine ⟨u, by simpa using u1, u2, fun r hr => ?_⟩
      rw [hd]
      refine Ev3.step e (Ev3.bind hc ?_)
      simp only [if_pos (hc2.2 g)]
      have := u3 r hr
      have e2 : A ++ (s1 ++ x :: ([y] ++ s2 ++ C)) = (A ++ s1) ++ x :: ([] ++ y :: (s2 ++ C)) := by simp
      rw [e2] at this
      exact this
    · refine ⟨s1 ++ [y] ++ x :: s2, ?_, ?_, fun r hr => ?_⟩
      · have t : Same kf (s2 ++ [x]) ([x] ++ s2) := Same.turn fun p hp q hq => by rw [List.mem_singleton.1 hq]; exact hg p hp
        have := (Same.refl (kf := kf) (s1 ++ [y])).app t
        simpa using this
      · refine srt_app.2 ⟨p1, srt_cons.2 ⟨fun q hq => Int.le_of_lt (hg q hq), p2⟩, fun p hp q hq => ?_⟩
        rcases List.mem_cons.1 hq with h | h
        · rw [h]
          obtain ⟨_, _, k3⟩ := srt_app.1 p1
          rcases List.mem_append.1 hp with h' | h'
          · have := k3 p h' y (List.mem_singleton.2 rfl); omega
          · rw [List.mem_singleton.1 h']; omega
        · exact p3 p hp q h
      · rw [hd]
        refine Ev3.step e (Ev3.bind hc ?_)
        simp only [if_neg (fun q => g (hc2.1 q))]
        have e2 : A ++ (s1 ++ [y] ++ x :: s2 ++ C) = (A ++ s1) ++ y :: ([] ++ x :: (s2 ++ C)) := by simp
        rw [e2] at hr
        exact hr.three
theorem ins_loop (a b : Nat) (B : List α) : ∀ (v A u : List α), A.length = o + a → b = a + u.length + v.length → b ≤ w → (A ++ (u ++ (v ++ B))).length = T → Srt kf u →
    ∃ out, Same kf (u ++ v) out ∧ Srt kf out ∧ Ev2 (fun k q => S.insL1 k q (a : Int) (b : Int) ((a + u.length : Nat) : Int) (A ++ (u ++ (v ++ B)))) ((), A ++ (out ++ B))
  | [], A, u, hA, hb, hbw, hT, hs => by
    refine ⟨u, by rw [List.append_nil]; exact Same.refl _, hs, Ev2.ret fun k q => ?_⟩
    rw [S.insL1_eq]
    simp only [List.length_nil, Nat.add_zero] at hb
    simp only [W, W1, hb, if_neg (Int.lt_irrefl _), List.nil_append]
  | x :: v, A, u, hA, hb, hbw, hT, hs => by
    simp only [List.length_cons] at hb
    obtain ⟨u', h1, h2, h3⟩ := put_ev S o w hix T hnn hw hcmp a b (a + u.length) (v ++ B) x u.length u A [] rfl hA (by omega) (by simpa using hT) (by rw [List.append_nil]; exact hs) (fun q hq => by cases hq)
    rw [List.append_nil] at h1
    have hl := h1.1
    rw [List.length_append, List.length_singleton] at hl
    obtain ⟨out, g1, g2, g3⟩ := ins_loop a b B v A u' hA (by omega) hbw (by rw [← hT]; simp only [List.length_append, List.length_cons]; omega) h2
    refine ⟨out, ?_, g2, ?_⟩
    · have := h1.app (Same.refl (kf := kf) v)
      rw [List.append_assoc] at this
      exact this.trans g1
    · have e := fun k q => S.insL1_eq k q (a : Int) (b : Int) ((a + u.length : Nat) : Int) (A ++ (u ++ (x :: v ++ B)))
      simp only [W, W1, if_pos (show ((a + u.length : Nat) : Int) < (b : Int) by omega)] at e
      refine Ev2.step e (Ev3.two (g := fun k q p => S.insL4 k q p (a : Int) (b : Int) ((a + u.length : Nat) : Int) ((a + u.length : Nat) : Int) (A ++ (u ++ (x :: v ++ B)))) ?_)
      have ei : addI .i64 ((a + u.length : Nat) : Int) 1 = ((a + u'.length : Nat) : Int) := by rw [addI_i64 (by omega) (by omega)]; omega
      rw [ei] at h3
      exact h3 _ g3
theorem ins_ev (a b : Nat) (A v B : List α) (hA : A.length = o + a) (hb : b = a + v.length) (hbw : b ≤ w) (hT : (A ++ (v ++ B)).length = T) :
    ∃ out, Same kf v out ∧ Srt kf out ∧ Ev (fun k => S.insF k (a : Int) (b : Int) (A ++ (v ++ B))) ((), A ++ (out ++ B)) := by
  have e := fun k => S.insF_eq k (a : Int) (b : Int) (A ++ (v ++ B))
  cases v with
  | nil =>
    refine ⟨[], Same.refl _, srt_nil, Ev.step e (Ev2.ev (g := fun k q => S.insL1 k q (a : Int) (b : Int) (addI .i64 (a : Int) 1) (A ++ ([] ++ B))) (Ev2.ret fun k q => ?_))⟩
    have ea : addI .i64 (a : Int) 1 = ((a + 1 : Nat) : Int) := by rw [addI_i64 (by omega) (by omega)]; omega
    rw [S.insL1_eq, ea]
    simp only [List.length_nil, Nat.add_zero] at hb
    simp only [W, W1, hb, if_neg (show ¬ ((a + 1 : Nat) : Int) < (a : Int) by omega)]
  | cons x v =>
    obtain ⟨out, h1, h2, h3⟩ := ins_loop S o w hix T hnn hw hcmp a b B v A [x] hA (by simp at hb ⊢; omega) hbw (by simpa using hT) (srt_one x)
    refine ⟨out, h1, h2, Ev.step e (Ev2.ev (g := fun k q => S.insL1 k q (a : Int) (b : Int) (addI .i64 (a : Int) 1) (A ++ (x :: v ++ B))) ?_)⟩
    have ea : addI .i64 (a : Int) 1 = ((a + [x].length : Nat) : Int) := by rw [addI_i64 (by omega) (by omega)]; simp
    rw [ea]
    simpa using h3
/-! ### runs -/
theorem runs_ev (n : Nat) (hn : n = w) : ∀ (t : Nat) (rest A B : List α) (a : Nat), rest.length ≤ t → A.length = o + a → a + rest.length = n → (A ++ (rest ++ B)).length = T →
    ∃ out, Same kf rest out ∧ Chk kf 20 out ∧ ∀ r, Ev (fun k => S.stL7 k k (n : Int) 20 (A ++ (out ++ B))) r → Ev2 (fun k q => S.stL2 k q (n : Int) 20 (a : Int) ((a + 20 : Nat) : Int) (A ++ (rest ++ B))) r
  | t, rest, A, B, a, ht, hA, hr, hT => by
    have e := fun k q => S.stL2_eq k q (n : Int) 20 (a : Int) ((a + 20 : Nat) : Int) (A ++ (rest ++ B))
    by_cases g : 20 ≤ rest.length
    · cases t with
      | zero => omega
      | succ t =>
        obtain ⟨c, rest, rfl, hc⟩ := split_at rest 20 g
        rw [List.length_append] at hr ht
        obtain ⟨c', h1, h2, h3⟩ := ins_ev S o w hix T hnn hw hcmp a (a + 20) A c (rest ++ B) hA (by omega) (by omega) (by simpa using hT)
        have hcl := h1.1
        obtain ⟨out, g1, g2, g3⟩ := runs_ev n hn t rest (A ++ c') B (a + 20) (by omega) (by rw [List.length_append]; omega) (by omega) (by rw [← hT]; simp only [List.length_append]; omega)
        refine ⟨c' ++ out, h1.app g1, Chk.more _ _ (by omega) h2 g2, fun r hr' => ?_⟩
        have ea : addI .i64 ((a + 20 : Nat) : Int) 20 = ((a + 20 + 20 : Nat) : Int) := by rw [addI_i64 (by omega) (by omega)]; omega
        simp only [W, W1, ea, if_pos (show ((a + 20 : Nat) : Int) ≤ (n : Int) by omega)] at e
        have e0 : A ++ (c ++ rest ++ B) = A ++ (c ++ (rest ++ B)) := by simp
        rw [e0] at e ⊢
        refine Ev2.step e (Ev2.bind h3 ?_)
        have := g3 r (by rw [show A ++ c' ++ (out ++ B) = A ++ (c' ++ out ++ B) by simp]; exact hr')
        rw [show A ++ c' ++ (rest ++ B) = A ++ (c' ++ (rest ++ B)) by simp] at this
        exact this
    · obtain ⟨out, h1, h2, h3⟩ := ins_ev S o w hix T hnn hw hcmp a n A rest B hA (by omega) (by omega) hT
      have hl := h1.1
      refine ⟨out, h1, Chk.last _ (by omega) h2, fun r hr' => ?_⟩
      simp only [W, W1, if_neg (show ¬ ((a + 20 : Nat) : Int) ≤ (n : Int) by omega)] at e
      exact Ev2.step e (Ev2.bind h3 hr'.two)
theorem pass_ev (n bs : Nat) (hn : n = w) (hb0 : 1 ≤ bs) (hb1 : bs ≤ n) : ∀ (t : Nat) (rest A B : List α) (a : Nat), rest.length ≤ t → A.length = o + a → a + rest.length = n → (A ++ (rest ++ B)).length = T → Chk kf bs rest →
    ∃ out, Same kf rest out ∧ Chk kf (2 * bs) out ∧ ∀ r, Ev2 (fun k q => S.stL7 k q (n : Int) ((2 * bs : Nat) : Int) (A ++ (out ++ B))) r → Ev3 (fun k q p => S.stL9 k q p (n : Int) (bs : Int) (a : Int) ((a + 2 * bs : Nat) : Int) (A ++ (rest ++ B))) r
  | t, rest, A, B, a, ht, hA, hr, hT, hc => by
    have e := fun k q p => S.stL9_eq k q p (n : Int) (bs : Int) (a : Int) ((a + 2 * bs : Nat) : Int) (A ++ (rest ++ B))
    have ea : addI .i64 (a : Int) (bs : Int) = ((a + bs : Nat) : Int) := by rw [addI_i64 (by omega) (by omega)]; omega
    have em : mulI .i64 2 (bs : Int) = ((2 * bs : Nat) : Int) := by rw [mulI_i64 (by omega) (by omega)]; omega
    have em2 : mulI .i64 (bs : Int) 2 = ((2 * bs : Nat) : Int) := by rw [mulI_i64 (by omega) (by omega)]; omega
    have eb : addI .i64 ((a + 2 * bs : Nat) : Int) ((2 * bs : Nat) : Int) = ((a + 2 * bs + 2 * bs : Nat) : Int) := by rw [addI_i64 (by omega) (by omega)]; omega
    simp only [ea, em, em2, eb] at e
    by_cases g : 2 * bs ≤ rest.length
    · cases t with
      | zero => omega
      | succ t =>
        obtain ⟨c1, r1, rfl, l1, s1, k1⟩ := chk_cut hc (by omega)
        rw [List.length_append] at g hr ht
        obtain ⟨c2, r2, rfl, l2, s2, k2⟩ : ∃ c r, r1 = c ++ r ∧ c.length = bs ∧ Srt kf c ∧ Chk kf bs r := by
          by_cases g2 : bs < r1.length
          · exact chk_cut k1 g2
          · exact ⟨r1, [], by simp, by omega, k1.all (by omega), Chk.last _ (by simp) srt_nil⟩
        rw [List.length_append] at g hr ht
        obtain ⟨c', h1, h2, h3⟩ := sym_ev S o w hix T hnn hw hcmp _ a A c1 c2 (r2 ++ B) (Nat.le_refl _) hA (by omega) (by omega) (by omega) (by simpa using hT) s1 s2
        have hcl := h1.1
        rw [List.length_append] at hcl
        obtain ⟨out, g1, g2, g3⟩ := pass_ev n bs hn hb0 hb1 t r2 (A ++ c') B (a + 2 * bs) (by omega) (by rw [List.length_append]; omega) (by omega) (by rw [← hT]; simp only [List.length_append]; omega) k2
        refine ⟨c' ++ out, ?_, Chk.more _ _ (by omega) h2 g2, fun r hr' => ?_⟩
        · rw [← List.append_assoc]; exact h1.app g1
        simp only [W, W1, if_pos (show ((a + 2 * bs : Nat) : Int) ≤ (n : Int) by omega)] at e
        have e0 : A ++ (c1 ++ (c2 ++ r2) ++ B) = A ++ (c1 ++ (c2 ++ (r2 ++ B))) := by simp
        rw [e0] at e ⊢
        rw [show a + c1.length + c2.length = a + 2 * bs by omega, l1] at h3
        refine Ev3.step e (Ev3.bind h3 ?_)
        have := g3 r (by rw [show A ++ c' ++ (out ++ B) = A ++ (c' ++ out ++ B) by simp]; exact hr')
        rw [show A ++ c' ++ (r2 ++ B) = A ++ (c' ++ (r2 ++ B)) by simp] at this
        exact this
    · simp only [W, W1, if_neg (show ¬ ((a + 2 * bs : Nat) : Int) ≤ (n : Int) by omega)] at e
      by_cases g2 : bs < rest.length
      · obtain ⟨c1, r1, rfl, l1, s1, k1⟩ := chk_cut hc g2
        rw [List.length_append] at g g2 hr ht
        obtain ⟨c', h1, h2, h3⟩ := sym_ev S o w hix T hnn hw hcmp _ a A c1 r1 B (Nat.le_refl _) hA (by omega) (by omega) (by omega) (by simpa using hT) s1 (k1.all (by omega))
        have hcl := h1.1
        rw [List.length_append] at hcl
        refine ⟨c', h1, Chk.last _ (by omega) h2, fun r hr' => ?_⟩
        simp only [if_pos (show ((a + bs : Nat) : Int) < (n : Int) by omega)] at e
        rw [show a + c1.length + r1.length = n by omega, l1] at h3
        have e0 : A ++ (c1 ++ r1 ++ B) = A ++ (c1 ++ (r1 ++ B)) := by simp
        rw [e0] at e ⊢
        exact Ev3.step e (Ev3.bind h3 hr'.three)
      · refine ⟨rest, Same.refl _, Chk.last _ (by omega) (hc.all (by omega)), fun r hr' => ?_⟩
        simp only [if_neg (show ¬ ((a + bs : Nat) : Int) < (n : Int) by omega)] at e
        exact Ev3.step e hr'.three
theorem dbl_ev (n : Nat) (hn : n = w) (A B : List α) (hA : A.length = o) : ∀ (t bs : Nat) (l : List α), n ≤ bs + t → 1 ≤ bs → l.length = n → (A ++ (l ++ B)).length = T → Chk kf bs l →
    ∃ out, Same kf l out ∧ Srt kf out ∧ Ev2 (fun k q => S.stL7 k q (n : Int) (bs : Int) (A ++ (l ++ B))) ((), A ++ (out ++ B))
  | t, bs, l, ht, hb0, hl, hT, hc => by
    have e := fun k q => S.stL7_eq k q (n : Int) (bs : Int) (A ++ (l ++ B))
    by_cases g : bs < n
    · cases t with
      | zero => omega
      | succ t =>
        obtain ⟨l', h1, h2, h3⟩ := pass_ev S o w hix T hnn hw hcmp n bs hn hb0 (by omega) _ l A B 0 (Nat.le_refl _) (by omega) (by omega) hT hc
        have hl' := h1.1
        obtain ⟨out, g1, g2, g3⟩ := dbl_ev n hn A B hA t (2 * bs) l' (by omega) (by omega) (by omega) (by rw [← hT]; simp only [List.length_append]; omega) h2
        refine ⟨out, h1.trans g1, g2, ?_⟩
        have em : mulI .i64 2 (bs : Int) = ((0 + 2 * bs : Nat) : Int) := by rw [mulI_i64 (by omega) (by omega)]; omega
        simp only [W, W1, em, if_pos (show (bs : Int) < (n : Int) by omega)] at e
        exact Ev2.step e (Ev3.two (h3 _ g3))
    · refine ⟨l, Same.refl _, hc.all (by omega), Ev2.ret fun k q => ?_⟩
      rw [e]
      simp only [W, W1, if_neg (show ¬ (bs : Int) < (n : Int) by omega)]
/-- a row, or a window of it: the same elements in order -/
theorem stable_ev (A v B : List α) (hA : A.length = o) (hv : v.length = w) (hT : (A ++ (v ++ B)).length = T) :
    ∃ out, Same kf v out ∧ Srt kf out ∧ Ev (fun k => S.stF k (w : Int) (A ++ (v ++ B))) ((), A ++ (out ++ B)) := by
  obtain ⟨l, h1, h2, h3⟩ := runs_ev S o w hix T hnn hw hcmp w rfl _ v A B 0 (Nat.le_refl _) (by omega) (by omega) hT
  have hl := h1.1
  obtain ⟨out, g1, g2, g3⟩ := dbl_ev S o w hix T hnn hw hcmp w rfl A B hA w 20 l (by omega) (by omega) (by omega) (by rw [← hT]; simp only [List.length_append]; omega) h2
  refine ⟨out, h1.trans g1, g2, Ev.step (fun k => S.stF_eq k _ _) (Ev2.ev (g := fun k q => S.stL2 k q (w : Int) 20 0 20 (A ++ (v ++ B))) (h3 _ ?_))⟩
  exact Ev2.ev (g := fun k q => S.stL7 k q (w : Int) 20 (A ++ (l ++ B))) g3
end
end Go.Proofs.YtfbhkkedmfbgbaaDoor.PM.St
