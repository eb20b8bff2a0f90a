/- FnJustified, plainly. -/
import Derived.Test.YtlfkoenopdcjmaaDoorPFnJustA
import Derived.Test.YtlfkoenopdcjmaaDoorXDrawP
namespace Go.Proofs.YtlfkoenopdcjmaaDoor.JF
open Go.Eng Go.RowKit
set_option linter.unusedVariables false
set_option linter.unusedSimpArgs false
theorem write_of (p w : Nat) (h : isPoint p = true) (hw : width p = w) : ∃ b : ByteArray, b.size = w ∧ Ev (fun k => spec_l01Write k (p : Int)) b := hw ▸ write_ev p h
theorem word_loop (s : List Int) (z : Int) (a0 : Int) (hs0 : Src s a0 z) : ∀ (f : Nat) (out : ByteArray) (a m : Int), 0 ≤ a ∧ a ≤ (s.length : Int) → out.size + 3 * f ≤ 1000 →
    Drw2 (fun k j => spec_l01Src_hyphenWord_L2 k j (f : Int) out s a m z) s z (fun v => v.size ≤ out.size + 3 * f) := by
  intro f
  induction f with
  | zero =>
    intro out a m ha ho
    have e := fun k j => spec_l01Src_hyphenWord_L2.eq ((0 : Nat) : Int) out s a m z k j
    simp only [W, W1, if_neg (show ¬ (0 : Int) < ((0 : Nat) : Int) by omega)] at e
    exact Drw2.step e (Drw2.now ha (by omega))
  | succ f ih =>
    intro out a m ha ho
    have e := fun k j => spec_l01Src_hyphenWord_L2.eq ((f + 1 : Nat) : Int) out s a m z k j
    have hsub : subI .i64 ((f + 1 : Nat) : Int) 1 = (f : Int) := by rw [subI_i64 (by omega) (by omega)]; omega
    simp only [W, W1, W3, hsub, if_pos (show (0 : Int) < ((f + 1 : Nat) : Int) by omega)] at e
    refine Drw2.step e (Drw2.bind (pick_ev _ (by simp) (by simp) (hs0.at ha)) fun v a1 m1 ha1 hv => ?_)
    have hsz : v.size ≤ 3 := by
      simp only [List.mem_cons, List.not_mem_nil, or_false] at hv
      rcases hv with rfl | rfl | rfl | rfl | rfl | rfl <;> decide
    simp only [if_pos (show (out.size : Int) + (v.size : Int) ≤ 9223372036854775807 by omega)]
    have h := ih (out ++ v) a1 m1 ha1 (by rw [ByteArray.size_append]; omega)
    obtain ⟨v', a', m', h1, h2, h3⟩ := h
    exact ⟨v', a', m', h1, h2, by rw [ByteArray.size_append] at h3; omega⟩
theorem word_ev (n : Int) (h0 : 0 ≤ n) (hn : n ≤ 4) {s : List Int} {a m z : Int} (h : Src s a z) : Drw (fun k => spec_l01Src_hyphenWord k n s a m z) s z (fun v => v.size ≤ 12) := by
  obtain ⟨f, rfl⟩ := Int.eq_ofNat_of_zero_le h0
  have hl := word_loop s z a h f (bs []) a m ⟨h.a0, h.a1⟩ (by show 0 + 3 * f ≤ 1000; omega)
  obtain ⟨v', a', m', h1, h2, h3⟩ := hl
  have h3 : v'.size ≤ 0 + 3 * f := h3
  exact ⟨v', a', m', Ev.step (fun k => spec_l01Src_hyphenWord.eq (f : Int) s a m z k) h1.ev, h2, by omega⟩
section
variable (s : List Int) (z : Int) (a0 : Int) (hs0 : Src s a0 z)
include hs0
theorem para_J10 (out : ByteArray) (ho : out.size ≤ 1000000) (kk x : Int) (x1 : Bool) (a m : Int) (ha : 0 ≤ a ∧ a ≤ (s.length : Int)) {Q : ByteArray → Prop}
    (h : ∀ (v : ByteArray) (a m : Int), 0 ≤ a ∧ a ≤ (s.length : Int) → v.size ≤ out.size + 20 → Drw2 (fun k j => spec_l01Src_paraText_J4 k j v kk s a m z) s z Q) :
    Drw2 (fun k j => spec_l01Src_paraText_J10 k j out kk x x1 s a m z) s z Q := by
  have e := fun k j => spec_l01Src_paraText_J10.eq out kk x x1 s a m z k j
  refine Drw2.congr e ?_
  have pk : ∀ (l : List ByteArray) (a m : Int), l ≠ [] → l.length ≤ 1048576 → (∀ v ∈ l, v.size ≤ 20) → 0 ≤ a ∧ a ≤ (s.length : Int) →
      Drw2 (fun k j => (spec_l01Src_pick k l s a m z).bind fun r0 => if (out.size : Int) + (r0.1.size : Int) ≤ 9223372036854775807 then spec_l01Src_paraText_J4 k j (out ++ r0.1) kk r0.2.1 r0.2.2.1 r0.2.2.2.1 r0.2.2.2.2 else none) s z Q := fun l a m h0 hl hv ha => by
    refine Drw2.bind (pick_ev l h0 hl (hs0.at ha)) fun v a1 m1 ha1 hm => ?_
    have := hv v hm
    simp only [if_pos (show (out.size : Int) + (v.size : Int) ≤ 9223372036854775807 by omega)]
    exact h (out ++ v) a1 m1 ha1 (by rw [ByteArray.size_append]; omega)
  simp only [W, W1, W3]
  cases x1 with
  | true =>
    simp only [W1]
    refine Drw2.bind (n_ev 4 (by omega) (hs0.at ha)) fun v a1 m1 ha1 hv => ?_
    have hadd : addI .i64 1 v = 1 + v := addI_i64 (by omega) (by omega)
    simp only [hadd]
    refine Drw2.bind (word_ev (1 + v) (by omega) (by omega) (hs0.at ha1)) fun w a2 m2 ha2 hw => ?_
    simp only [if_pos (show (out.size : Int) + (w.size : Int) ≤ 9223372036854775807 by omega)]
    refine Drw2.bind (pick_ev _ (by simp) (by simp) (hs0.at ha2)) fun u a3 m3 ha3 hu => ?_
    have hsz : u.size ≤ 2 := by
      simp only [List.mem_cons, List.not_mem_nil, or_false] at hu
      rcases hu with rfl | rfl | rfl | rfl <;> decide
    have hos : (out ++ w).size = out.size + w.size := ByteArray.size_append
    simp only [hos, if_pos (show ((out.size + w.size : Nat) : Int) + (u.size : Int) ≤ 9223372036854775807 by omega)]
    exact h (out ++ w ++ u) a3 m3 ha3 (by rw [ByteArray.size_append, hos]; omega)
  | false =>
    simp only [W1]
    by_cases c3 : x = 3
    · simp only [if_pos c3]
      exact pk _ a m (by simp) (by simp) (fun v hv => by
        simp only [List.mem_cons, List.not_mem_nil, or_false] at hv
        rcases hv with rfl | rfl | rfl | rfl | rfl | rfl | rfl <;> decide) ha
    simp only [if_neg c3]
    by_cases c4 : x = 4
    · simp only [if_pos c4]
      obtain ⟨b0, z0, w0⟩ := write_of 24576 3 (by decide) (by decide)
      obtain ⟨b1, z1, w1⟩ := write_of 12289 3 (by decide) (by decide)
      obtain ⟨b2, z2, w2⟩ := write_of 1792 2 (by decide) (by decide)
      obtain ⟨b3, z3, w3⟩ := write_of 1824 2 (by decide) (by decide)
      obtain ⟨b4, z4, w4⟩ := write_of 7680 3 (by decide) (by decide)
      refine Drw2.pre w0 (Drw2.pre w1 (Drw2.pre w2 (Drw2.pre w3 ?_)))
      simp only [if_pos (show (b2.size : Int) + (b3.size : Int) ≤ 9223372036854775807 by omega)]
      refine Drw2.pre w4 ?_
      exact pk _ a m (by simp) (by simp) (fun v hv => by
        simp only [List.mem_cons, List.not_mem_nil, or_false] at hv
        rcases hv with rfl | rfl | rfl | rfl
        · omega
        · omega
        · rw [ByteArray.size_append]; omega
        · omega) ha
    simp only [if_neg c4]
    by_cases c5 : x = 5
    · simp only [if_pos c5]
      obtain ⟨b0, z0, w0⟩ := write_of 4096 3 (by decide) (by decide)
      obtain ⟨b1, z1, w1⟩ := write_of 160 2 (by decide) (by decide)
      obtain ⟨b2, z2, w2⟩ := write_of 8064 3 (by decide) (by decide)
      have h97 : (bs [97]).size = 1 := rfl
      refine Drw2.pre w0 ?_
      simp only [h97, if_pos (show ((1 : Nat) : Int) + (b0.size : Int) ≤ 9223372036854775807 by omega)]
      refine Drw2.pre w1 (Drw2.pre w2 ?_)
      exact pk _ a m (by simp) (by simp) (fun v hv => by
        simp only [List.mem_cons, List.not_mem_nil, or_false] at hv
        rcases hv with rfl | rfl | rfl | rfl | rfl | rfl
        · decide
        · decide
        · rw [ByteArray.size_append]; omega
        · decide
        · omega
        · omega) ha
    simp only [if_neg c5]
    refine Drw2.bind (n_ev 3 (by omega) (hs0.at ha)) fun v a1 m1 ha1 hv => ?_
    have hadd : addI .i64 1 v = 1 + v := addI_i64 (by omega) (by omega)
    simp only [hadd]
    refine Drw2.bind (word_ev (1 + v) (by omega) (by omega) (hs0.at ha1)) fun w a2 m2 ha2 hw => ?_
    simp only [if_pos (show (out.size : Int) + (w.size : Int) ≤ 9223372036854775807 by omega)]
    exact h (out ++ w) a2 m2 ha2 (by rw [ByteArray.size_append]; omega)
theorem para_loop : ∀ (f : Nat) (out : ByteArray) (a m : Int), 0 ≤ a ∧ a ≤ (s.length : Int) → out.size + 20 * f ≤ 1000 →
    Drw2 (fun k j => spec_l01Src_paraText_L3 k j out (f : Int) s a m z) s z (fun v => v.size ≤ 1000) := by
  intro f
  induction f with
  | zero =>
    intro out a m ha ho
    have e := fun k j => spec_l01Src_paraText_L3.eq out ((0 : Nat) : Int) s a m z k j
    simp only [W, W1, if_neg (show ¬ (0 : Int) < ((0 : Nat) : Int) by omega)] at e
    exact Drw2.step e (Drw2.now ha (by omega))
  | succ f ih =>
    intro out a m ha ho
    have e := fun k j => spec_l01Src_paraText_L3.eq out ((f + 1 : Nat) : Int) s a m z k j
    have hsub : subI .i64 ((f + 1 : Nat) : Int) 1 = (f : Int) := by rw [subI_i64 (by omega) (by omega)]; omega
    simp only [W, W1, W3, if_pos (show (0 : Int) < ((f + 1 : Nat) : Int) by omega)] at e
    have hJ : ∀ (v : ByteArray) (a m : Int), 0 ≤ a ∧ a ≤ (s.length : Int) → v.size ≤ out.size + 20 → Drw2 (fun k j => spec_l01Src_paraText_J4 k j v ((f + 1 : Nat) : Int) s a m z) s z (fun v => v.size ≤ 1000) := fun v a m ha hv => by
      have e4 := fun k j => spec_l01Src_paraText_J4.eq v ((f + 1 : Nat) : Int) s a m z k j
      simp only [hsub] at e4
      exact Drw2.congr e4 (ih v a m ha (by omega))
    refine Drw2.step e (Drw2.bind (n_ev 8 (by omega) (hs0.at ha)) fun x a1 m1 ha1 hx => ?_)
    have hJ10 := fun x1 => para_J10 s z a0 hs0 out (by omega) ((f + 1 : Nat) : Int) x x1 a1 m1 ha1 hJ
    by_cases c0 : x = 0
    · simp only [if_pos c0]; exact hJ10 _
    · simp only [if_neg c0]
      by_cases c1 : x = 1
      · simp only [if_pos c1]; exact hJ10 _
      · simp only [if_neg c1]; exact hJ10 _
end
theorem para_ev {s : List Int} {a m z : Int} (h : Src s a z) : Drw (fun k => spec_l01Src_paraText k s a m z) s z (fun v => v.size ≤ 1000) := by
  have hz0 := h.z0
  have hz1 := h.z1
  have e0 := fun k => spec_l01Src_paraText.eq s a m z k
  have hadd : addI .i64 9 z = 9 + z := addI_i64 (by omega) (by omega)
  simp only [W, W1, W2, W3, hadd] at e0
  refine Drw.step e0 (Drw.bind (n_ev (9 + z) (by omega) h) fun v a1 m1 ha1 hv => ?_)
  obtain ⟨f, rfl⟩ := Int.eq_ofNat_of_zero_le hv.1
  exact (para_loop s z a h f (bs []) a1 m1 ha1 (by show 0 + 20 * f ≤ 1000; omega)).one
/-- what is drawn: a short text and a width -/
theorem draw_ev (code : List Int) (hc : code.length ≤ 1048576) : ∃ (t : ByteArray) (w : Int), Ev (fun k => spec_DrawJustified k code) (t, w) ∧ t.size ≤ 1000 := by
  obtain ⟨m, z, hS, hs⟩ := source_ev code hc
  obtain ⟨t, a1, m1, e1, ha1, ht⟩ := para_ev (m := m) hs
  obtain ⟨r1, r2⟩ := wide_range t (by omega)
  obtain ⟨v3, a3, m3, e3, ha3, hv3⟩ := n_ev 9 (by omega) (m := m1) (hs.at ha1)
  obtain ⟨v4, a4, m4, e4, ha4, hv4⟩ := n_ev 3 (by omega) (m := m3) (hs.at ha3)
  obtain ⟨v5, a5, m5, e5, ha5, hv5⟩ := n_ev 30 (by omega) (m := m4) (hs.at ha4)
  obtain ⟨v6, a6, m6, e6, ha6, hv6⟩ := n_ev 6 (by omega) (m := m5) (hs.at ha5)
  have e := fun k => spec_DrawJustified.eq code k
  simp only [W, W1, W2, W3, List.length_cons, List.length_nil] at e
  refine ⟨t, rd [addI .i64 (wide t) v3, subI .i64 (wide t) v4, v5, 1000, 1001, -1] v6 0, Ev.step e (Ev.bind hS (Ev.bind e1 (Ev.bind (specWide t (by omega)) (Ev.bind e3 (Ev.bind e4 (Ev.bind e5 (Ev.bind e6 ?_))))))), ht⟩
  simp only [if_pos hv6.1, if_pos (show v6 < ((0 + 1 + 1 + 1 + 1 + 1 + 1 : Nat) : Int) by omega)]
  exact Ev.now _
theorem pure_FnJustified (code : List Int) (h1 : CT.good (.row e_y) code) : ∃ k, laws_FnJustified k code = some true := by
  have e := fun k => laws_FnJustified.eq code k
  simp only [W, W1, W2, W3] at e
  refine Ev.has (Ev.step e ?_)
  by_cases c : (1048576 : Int) < (code.length : Int)
  · simp only [if_pos c]
    exact Ev.now _
  simp only [if_neg c]
  obtain ⟨t, w, hD, ht⟩ := draw_ev code (by omega)
  refine Ev.bind hD (Ev.bind (implJust t w) (Ev.bind (specJust t w) ?_))
  simp only [if_true]
  by_cases c1 : w < 0
  · simp only [if_pos c1]
    have : just t w = bs [] := by unfold just; rw [if_pos c1]; split <;> rfl
    rw [this, decide_eq_true rfl]
    exact Ev.now _
  simp only [if_neg c1]
  by_cases c2 : 1000 < w
  · simp only [if_pos c2]
    have : just t w = bs [] := by unfold just; rw [if_neg c1, if_pos c2]; split <;> rfl
    rw [this, decide_eq_true rfl]
    exact Ev.now _
  simp only [if_neg c2]
  have hP : Ev (fun k => spec_PointsOf k t) (pts t) := by
    have e := fun k => spec_PointsOf.eq t k
    simp only [W, W1, W3, if_neg (show ¬ (65536 : Int) < (t.size : Int) by omega)] at e
    exact Ev.step e (Ev.bind (specPts t (by omega)) (Ev.now _))
  refine Ev.bind hP ?_
  by_cases c3 : (1000 : Int) < ((pts t).length : Int)
  · simp only [if_pos c3]
    have : just t w = bs [] := by
      unfold just few
      rw [decide_eq_false (show ¬ (pts t).length ≤ 1000 by omega), Bool.and_false]
      rfl
    rw [this, decide_eq_true rfl]
    exact Ev.now _
  simp only [if_neg c3]
  have hfew : few t = true := by
    unfold few
    rw [decide_eq_true (show t.size ≤ 65536 by omega), decide_eq_true (show (pts t).length ≤ 1000 by omega)]
    rfl
  have hj : just t w = if gaps t = [] then t else if w - wide t ≤ 0 then t else jl t ((w - wide t).toNat / (gaps t).length) ((w - wide t).toNat % (gaps t).length) 0 0 (gaps t) (bs []) := by
    unfold just
    rw [if_pos hfew, if_neg c1, if_neg c2]
  by_cases c4 : just t w = t
  · simp only [if_pos c4]
    exact Ev.now _
  simp only [if_neg c4]
  have hg : gaps t ≠ [] := fun h => c4 (by rw [hj, if_pos h])
  rw [if_neg hg] at hj
  have hw : ¬ w - wide t ≤ 0 := fun h => c4 (by rw [hj, if_pos h])
  rw [if_neg hw] at hj
  obtain ⟨r1, r2⟩ := wide_range t (by omega)
  have hx1 : (w - wide t).toNat ≤ 1000 := by omega
  have hsz := jl_ok t (w - wide t).toNat hx1 (by omega) 0
  have hwd := just_wide t (w - wide t).toNat hg
  have hnb := jl_nbs t ((w - wide t).toNat / (gaps t).length) ((w - wide t).toNat % (gaps t).length) (gaps t) 0 0 (bs []) (gaps_ups0 t)
  rw [← hj] at hsz hwd hnb
  generalize just t w = y at *
  have hW : Ev (fun k => impl_WideOf k y) (wide y) := by
    have e := fun k => impl_WideOf.eq y k
    have eL := fun k => impl_long.eq y k
    simp only [W, W1, W3] at e eL
    have hL : Ev (fun k => impl_long k y) (decide ((65536 : Int) < (y.size : Int))) := Ev.ret eL
    refine Ev.step e (Ev.bind hL ?_)
    simp only [decide_eq_false (show ¬ (65536 : Int) < (y.size : Int) by omega), W1]
    exact Ev.bind (implWide y hsz) (Ev.now _)
  refine Ev.bind hW ?_
  simp only [if_pos (show wide y = w by omega)]
  refine Ev.bind (noBlanks y (by omega)) (Ev.bind (noBlanks t (by omega)) ?_)
  have hn2 : nbs y = nbs t := by
    rw [hnb, show nbs (bs []) = [] from rfl, List.nil_append]
    congr 1
    apply ByteArray.ext; simp [ByteArray.data_extract]
  rw [hn2, decide_eq_true rfl]
  exact Ev.now _
#print axioms pure_FnJustified
end Go.Proofs.YtlfkoenopdcjmaaDoor.JF
