/- The text of a rope's tree is the text; texts that are drawn for ropes. -/
import Derived.Test.YtfbhkkedmfbgbaaDoorPFault
import Derived.Test.YtfbhkkedmfbgbaaDoorXDraw
namespace Go.Proofs.YtfbhkkedmfbgbaaDoor.PM
open Go.Eng Go.RowKit
set_option linter.unusedVariables false
set_option linter.unusedSimpArgs false
/-! ### the text of a tree is the text -/
theorem extract_join (t : ByteArray) (c : Nat) (h : c ≤ t.size) : t.extract 0 c ++ t.extract c t.size = t := by
  rw [ByteArray.extract_append_extract]
  rw [Nat.min_eq_left (Nat.zero_le _), Nat.max_eq_right h]
  exact ByteArray.extract_zero_size
theorem textOf_append (a b : List T_siiii) : textOf (a ++ b) = textOf a ++ textOf b := by
  induction a with
  | nil => rw [List.nil_append]; exact (nil_app _).symm
  | cons x a ih => simp only [List.cons_append, textOf, ih, app_assoc]
theorem textOf_nodes : ∀ (f : Nat) (t : ByteArray) (b : Nat), 0 < t.size → t.size ≤ f → textOf (nodes f t b) = t := by
  intro f
  induction f with
  | zero => intro t b h1 h2; omega
  | succ f ih =>
    intro t b h1 h2
    unfold nodes
    by_cases c : t.size ≤ 64
    · rw [if_pos c]; exact app_nil t
    · rw [if_neg c]
      have hc := cut_bounds t (by omega)
      have s1 : (t.extract 0 (cut t)).size = cut t := by rw [ByteArray.size_extract]; omega
      have s2 : (t.extract (cut t) t.size).size = t.size - cut t := by rw [ByteArray.size_extract]; omega
      simp only [textOf, textOf_append]
      rw [ih (t.extract 0 (cut t)) _ (by omega) (by omega), ih (t.extract (cut t) t.size) _ (by omega) (by omega), extract_join t _ (by omega)]
      exact nil_app t
theorem textOf_tree (t : ByteArray) : textOf (treeOf t) = t := by
  unfold treeOf
  by_cases c : t.size = 0
  · rw [if_pos c]; exact (empty_of t c).symm
  · rw [if_neg c]; exact textOf_nodes t.size t 0 (by omega) (Nat.le_refl _)
theorem good_tree (t : ByteArray) (h : t.size ≤ 65536) : good (treeOf t) [] = true := by
  simp only [good, textOf_tree, mFrom, decide_eq_true h, decide_true, Bool.true_and, Bool.and_true]
  simp
theorem fits_tree (t : ByteArray) (h : t.size ≤ 65536) : Fits (treeOf t) [] := ⟨treeOf_len t h, by simp, by rw [textOf_tree]; omega, fun m hm => by cases hm⟩
/-! ### the drawn text -/
theorem write_of (p w : Nat) (h : isPoint p = true) (hw : width p = w) : ∃ b : ByteArray, b.size = w ∧ Ev (fun k => spec_l01Write k (p : Int)) b := hw ▸ write_ev p h
theorem ropeText_loop (s : List Int) (z : Int) (a0 : Int) (hs0 : Src s a0 z) : ∀ (f : Nat) (out : ByteArray) (a m : Int), 0 ≤ a ∧ a ≤ (s.length : Int) → out.size + 40 * f ≤ 1000000 →
    ∃ (v : ByteArray) (a' m' : Int), Ev2 (fun k j => spec_l01Src_ropeText_L3 k j out (f : Int) s a m z) (v, (s, (a', (m', z)))) ∧ v.size ≤ 1000000 ∧ 0 ≤ a' ∧ a' ≤ (s.length : Int) := by
  obtain ⟨b0, z0, w0⟩ := write_of 512 2 (by decide) (by decide)
  obtain ⟨b1, z1, w1⟩ := write_of 24576 3 (by decide) (by decide)
  obtain ⟨b2, z2, w2⟩ := write_of 24577 3 (by decide) (by decide)
  obtain ⟨b3, z3, w3⟩ := write_of 65536 4 (by decide) (by decide)
  intro f
  induction f with
  | zero =>
    intro out a m ha hout
    have e := fun k j => spec_l01Src_ropeText_L3.eq out 0 s a m z k j
    simp only [W, W1, W3, if_neg (show ¬ (0 : Int) < 0 by omega)] at e
    obtain ⟨v1, a1, m1, e1, ha1, _⟩ := one_ev 60 (by omega) (m := m) (hs0.at ha)
    cases v1 with
    | false =>
      refine ⟨out, a1, m1, Ev2.step e (Ev2.bind e1 ?_), by omega, ha1⟩
      simp only [W1]
      exact Ev2.now _
    | true =>
      obtain ⟨v2, a2, m2, e2, ha2, hv2⟩ := n_ev 5 (by omega) (m := m1) (hs0.at ha1)
      have hadd : addI .i64 65533 v2 = 65533 + v2 := addI_i64 (by omega) (by omega)
      obtain ⟨v3, a3, m3, e3, ha3, hv3⟩ := long_ev (bs [97, 98, 99, 10]) (65533 + v2) (by decide) (by decide) (by omega) (by omega) (m := m2) (hs0.at ha2)
      refine ⟨v3, a3, m3, Ev2.step e (Ev2.bind e1 ?_), by omega, ha3⟩
      simp only [W1]
      refine Ev2.bind e2 ?_
      simp only [hadd]
      exact Ev2.bind e3 (Ev2.now _)
  | succ f ih =>
    intro out a m ha hout
    have e := fun k j => spec_l01Src_ropeText_L3.eq out ((f + 1 : Nat) : Int) s a m z k j
    have hsub : subI .i64 ((f + 1 : Nat) : Int) 1 = (f : Int) := by rw [subI_i64 (by omega) (by omega)]; omega
    simp only [W, W1, W3, hsub, if_pos (show (0 : Int) < ((f + 1 : Nat) : Int) by omega)] at e
    generalize hlist : ((bs [97, 98, 99, 100, 101, 102, 103, 104, 105, 106]) :: ((bs [10]) :: ((bs [120, 121]) :: (b0 :: ((b1 ++ b2) :: ((bs [255]) :: ((bs [119, 111, 114, 100, 32]) :: ((bs [10, 10]) :: (b3 :: ((bs [48, 49, 50, 51, 52, 53, 54, 55, 56, 57, 48, 49, 50, 51, 52, 53, 54, 55, 56, 57, 48, 49, 50, 51, 52, 53, 54, 55, 56, 57, 48, 49, 50, 51, 52, 53, 54, 55, 56, 57]) :: ([] : List ByteArray))))))))))) = L
    have hall : ∀ x ∈ L, x.size ≤ 40 := by
      subst hlist
      intro x hx
      simp only [List.mem_cons, List.not_mem_nil, or_false] at hx
      rcases hx with rfl | rfl | rfl | rfl | rfl | rfl | rfl | rfl | rfl | rfl
      · decide
      · decide
      · decide
      · omega
      · rw [ByteArray.size_append]; omega
      · decide
      · decide
      · decide
      · omega
      · decide
    have hne : L ≠ [] := by subst hlist; simp
    have hll : L.length ≤ 1048576 := by subst hlist; simp
    obtain ⟨v1, a1, m1, e1, ha1, hv1⟩ := pick_ev L hne hll (m := m) (hs0.at ha)
    have hsz := hall v1 hv1
    obtain ⟨v, a', m', h1, h2⟩ := ih (out ++ v1) a1 m1 ha1 (by rw [ByteArray.size_append]; omega)
    refine ⟨v, a', m', Ev2.step e (Ev2.bind w0 (Ev2.bind w1 (Ev2.bind w2 ?_))), h2⟩
    simp only [if_pos (show (b1.size : Int) + (b2.size : Int) ≤ 9223372036854775807 by omega)]
    refine Ev2.bind w3 ?_
    simp only [hlist]
    refine Ev2.bind e1 ?_
    simp only [if_pos (show (out.size : Int) + (v1.size : Int) ≤ 9223372036854775807 by omega)]
    exact h1
/-! ### the reference's rope -/
noncomputable def ropeOf (t : ByteArray) : List T_siiii := if 65536 < t.size then [] else treeOf t
theorem ropeOf_len (t : ByteArray) : (ropeOf t).length ≤ 1048576 := by
  unfold ropeOf
  split
  · simp
  · exact treeOf_len t (by omega)
theorem specRope (t : ByteArray) : Ev (fun k => spec_RopeOf k t) (ropeOf t, []) := by
  have e := fun k => spec_RopeOf.eq t k
  simp only [W, W1, W3] at e
  unfold ropeOf
  by_cases c : 65536 < t.size
  · simp only [if_pos (show (65536 : Int) < (t.size : Int) by omega)] at e
    rw [if_pos c]
    exact Ev.ret e
  · simp only [if_neg (show ¬ (65536 : Int) < (t.size : Int) by omega)] at e
    rw [if_neg c]
    exact Ev.step e (Ev.bind (specTree t (by omega)) (Ev.now _))
end Go.Proofs.YtfbhkkedmfbgbaaDoor.PM
