/- The law of ropes, plainly: the rope of a drawn text is right and has it; its pieces, lines and places of lines are the text's. -/
import Derived.Test.YtkghicadebeceaaDoorPRopeFive
import Derived.Test.YtkghicadebeceaaDoorXDraw
namespace Go.Proofs.YtkghicadebeceaaDoor.RF
open Go.Eng Go.RowKit
set_option linter.unusedVariables false
set_option linter.unusedSimpArgs false
/-! ### the text of a tree is the text -/
theorem extract_join (t : ByteArray) (c : Nat) (h : c ≤ t.size) : t.extract 0 c ++ t.extract c t.size = t := by
  rw [ByteArray.extract_append_extract]
  rw [Nat.min_eq_left (Nat.zero_le _), Nat.max_eq_right h]
  exact ByteArray.extract_zero_size
theorem textOf_append (a b : List T_siiii) : textOf (a ++ b) = textOf a ++ textOf b := by
  induction a with
  | nil => rw [List.nil_append]; exact (nil_app _).symm
  | cons x a ih => simp only [List.cons_append, textOf, ih, app_assoc]
theorem textOf_nodes : ∀ (f : Nat) (t : ByteArray) (b : Nat), 0 < t.size → t.size ≤ f → textOf (nodes f t b) = t := by
  intro f
  induction f with
  | zero => intro t b h1 h2; omega
  | succ f ih =>
    intro t b h1 h2
    unfold nodes
    by_cases c : t.size ≤ 64
    · rw [if_pos c]; exact app_nil t
    · rw [if_neg c]
      have hc := cut_bounds t (by omega)
      have s1 : (t.extract 0 (cut t)).size = cut t := by rw [ByteArray.size_extract]; omega
      have s2 : (t.extract (cut t) t.size).size = t.size - cut t := by rw [ByteArray.size_extract]; omega
      simp only [textOf, textOf_append]
      rw [ih (t.extract 0 (cut t)) _ (by omega) (by omega), ih (t.extract (cut t) t.size) _ (by omega) (by omega), extract_join t _ (by omega)]
      exact nil_app t
theorem textOf_tree (t : ByteArray) : textOf (treeOf t) = t := by
  unfold treeOf
  by_cases c : t.size = 0
  · rw [if_pos c]; exact (empty_of t c).symm
  · rw [if_neg c]; exact textOf_nodes t.size t 0 (by omega) (Nat.le_refl _)
theorem good_tree (t : ByteArray) (h : t.size ≤ 65536) : good (treeOf t) [] = true := by
  simp only [good, textOf_tree, mFrom, decide_eq_true h, decide_true, Bool.true_and, Bool.and_true]
  simp
theorem fits_tree (t : ByteArray) (h : t.size ≤ 65536) : Fits (treeOf t) [] := ⟨treeOf_len t h, by simp, by rw [textOf_tree]; omega, fun m hm => by cases hm⟩
/-! ### line ends ahead of a place -/
theorem ends_succ (t : ByteArray) (a : Nat) (h : a < t.size) : ends (t.extract 0 (a + 1)) = ends (t.extract 0 a) + (if B t a = 10 then 1 else 0) := by
  have hd : ∀ n, (t.extract 0 n).data.toList = t.data.toList.take n := fun n => by
    rw [ByteArray.data_extract, Array.toList_extract]
    simp
  have hl : a < t.data.toList.length := by rw [Array.length_toList]; exact h
  unfold ends
  rw [hd, hd, List.take_succ_eq_append_getElem hl]
  unfold Lib.countByte
  rw [List.count_append]
  congr 1
  have hB : B t a = (t.data.toList[a]).toNat := by
    unfold B
    rw [List.getD_eq_getElem?_getD, List.getElem?_eq_getElem hl]
    rfl
  rw [hB]
  simp only [List.count_cons, List.count_nil, Nat.zero_add]
  generalize t.data.toList[a] = y
  by_cases c : y = 10
  · subst c; rfl
  · rw [if_neg, if_neg]
    · intro h; exact c (UInt8.toNat_inj.1 h)
    · simpa using c
theorem ends_zero (t : ByteArray) : ends (t.extract 0 0) = 0 := by
  rw [empty_of (t.extract 0 0) (by rw [ByteArray.size_extract]; omega)]
  rfl
theorem ends_mono (t : ByteArray) : ∀ (d a : Nat), a + d ≤ t.size → ends (t.extract 0 a) ≤ ends (t.extract 0 (a + d)) := by
  intro d
  induction d with
  | zero => intro a _; exact Nat.le_refl _
  | succ d ih =>
    intro a h
    have h1 := ih a (by omega)
    have h2 := ends_succ t (a + d) (by omega)
    rw [show a + (d + 1) = a + d + 1 by omega, h2]
    omega
/-- the place behind the n-th line end from i on -/
theorem placeF_at (t : ByteArray) (a : Nat) (ha : a ≤ t.size) : ∀ (m i : Nat) (n : Nat), i + m = t.size → 1 ≤ n → i ≤ a → ends (t.extract 0 i) + n ≤ ends (t.extract 0 a) →
    ∃ p : Nat, placeF t m i (n : Int) = (p : Int) ∧ p ≤ a ∧ ends (t.extract 0 p) = ends (t.extract 0 i) + n := by
  intro m
  induction m with
  | zero =>
    intro i n h1 h2 h3 h4
    have : i = a := by omega
    subst this
    omega
  | succ m ih =>
    intro i n h1 h2 h3 h4
    have hia : i < a := by
      rcases Nat.lt_or_ge i a with h | h
      · exact h
      · have : i = a := by omega
        subst this
        omega
    have hs := ends_succ t i (by omega)
    rw [show placeF t (m + 1) i (n : Int) = if B t i = 10 then (if (n : Int) - 1 = 0 then ((i + 1 : Nat) : Int) else placeF t m (i + 1) ((n : Int) - 1)) else placeF t m (i + 1) (n : Int) from rfl]
    by_cases c : B t i = 10
    · rw [if_pos c] at hs ⊢
      by_cases c2 : n = 1
      · rw [if_pos (by omega)]
        exact ⟨i + 1, rfl, by omega, by omega⟩
      · rw [if_neg (by omega), show (n : Int) - 1 = ((n - 1 : Nat) : Int) by omega]
        obtain ⟨p, p1, p2, p3⟩ := ih (i + 1) (n - 1) (by omega) (by omega) (by omega) (by omega)
        exact ⟨p, p1, p2, by omega⟩
    · rw [if_neg c] at hs ⊢
      obtain ⟨p, p1, p2, p3⟩ := ih (i + 1) n (by omega) h2 (by omega) (by omega)
      exact ⟨p, p1, p2, by omega⟩
theorem ends_le (t : ByteArray) : ∀ a : Nat, a ≤ t.size → ends (t.extract 0 a) ≤ a := by
  intro a
  induction a with
  | zero => intro _; rw [ends_zero]; exact Nat.le_refl _
  | succ a ih =>
    intro h
    have h1 := ih (by omega)
    have h2 := ends_succ t a (by omega)
    rw [h2]
    split <;> omega
/-! ### the law's last loop -/
theorem L23_loop (t : ByteArray) (ht : t.size ≤ 65536) (a b : Nat) (hab : a ≤ b) (hb : b ≤ t.size) : ∀ (m i : Nat), i + m = a →
    Ev2 (fun k j => laws_FnRope_L23 k j t (a : Int) (b : Int) ((ends (t.extract 0 i) : Nat) : Int) (i : Int) (treeOf t) []) true := by
  intro m
  induction m with
  | zero =>
    intro i h
    have hia : i = a := by omega
    subst hia
    have hf := fits_tree t ht
    have hg := good_tree t ht
    have e := fun k j => laws_FnRope_L23.eq t (i : Int) (b : Int) ((ends (t.extract 0 i) : Nat) : Int) (i : Int) (treeOf t) [] k j
    simp only [W, W1, W3, if_neg (show ¬ (i : Int) < (i : Int) by omega)] at e
    have hline : lineOf (treeOf t) [] (i : Int) = ((ends (t.extract 0 i) : Nat) : Int) := by
      unfold lineOf
      rw [hg, textOf_tree, if_neg (by omega), if_neg (by omega)]
      rfl
    have hel := ends_le t i (by omega)
    have hplace : ∃ p : Nat, placeOf (treeOf t) [] ((ends (t.extract 0 i) : Nat) : Int) = (p : Int) ∧ p ≤ i ∧ ends (t.extract 0 p) = ends (t.extract 0 i) := by
      unfold placeOf
      rw [hg, textOf_tree]
      rw [if_neg (by omega)]
      by_cases c : ends (t.extract 0 i) = 0
      · rw [if_pos (by omega)]
        exact ⟨0, rfl, by omega, by rw [ends_zero, c]⟩
      · rw [if_neg (by omega)]
        obtain ⟨p, p1, p2, p3⟩ := placeF_at t i (by omega) t.size 0 (ends (t.extract 0 i)) (by omega) (by omega) (by omega) (by rw [ends_zero]; omega)
        exact ⟨p, p1, p2, by rw [p3, ends_zero]; omega⟩
    obtain ⟨p, p1, p2, p3⟩ := hplace
    have hline2 : lineOf (treeOf t) [] (p : Int) = ((ends (t.extract 0 i) : Nat) : Int) := by
      unfold lineOf
      rw [hg, textOf_tree, if_neg (by omega), if_neg (by omega), Int.toNat_natCast, p3]
      rfl
    have hfault : faultOf (treeOf t) [] = 0 := by unfold faultOf; rw [hg]; rfl
    have hshown : shown (treeOf t) [] = t := by unfold shown; rw [hg, textOf_tree]; rfl
    have hpiece : pieceOf (treeOf t) [] (i : Int) (b : Int) = t.extract i b := by
      unfold pieceOf
      rw [hshown, if_neg (by omega), if_neg (by omega), if_neg (by omega), Int.toNat_natCast, Int.toNat_natCast]
    have l1 := implLine hf (i : Int)
    have l2 := implPlace hf ((ends (t.extract 0 i) : Nat) : Int) (by omega) (by omega)
    have l3 := implFault hf
    have l4 := implShown hf
    have l5 := implPiece hf (i : Int) (b : Int)
    have l6 := implLine hf (p : Int)
    rw [hline] at l1
    rw [p1] at l2
    rw [hfault] at l3
    rw [hshown] at l4
    rw [hpiece] at l5
    rw [hline2] at l6
    refine Ev2.step e (Ev2.bind l1 (Ev2.bind l2 (Ev2.bind l3 ?_)))
    simp only [if_true]
    refine Ev2.bind l4 ?_
    simp only [if_true]
    refine Ev2.bind l5 ?_
    simp only [if_pos (show (0 : Int) ≤ (i : Int) by omega), if_pos (show (i : Int) ≤ (b : Int) by omega), if_pos (show (b : Int) ≤ (t.size : Int) by omega), Int.toNat_natCast, if_true, if_pos (show (0 : Int) ≤ (p : Int) by omega), if_pos (show (p : Int) ≤ (i : Int) by omega)]
    refine Ev2.bind l6 ?_
    simp only [decide_true]
    exact Ev2.now _
  | succ m ih =>
    intro i h
    have e := fun k j => laws_FnRope_L23.eq t (a : Int) (b : Int) ((ends (t.extract 0 i) : Nat) : Int) (i : Int) (treeOf t) [] k j
    have hw : addI .i64 (i : Int) 1 = ((i + 1 : Nat) : Int) := by rw [addI_i64 (by omega) (by omega)]; omega
    have hs := ends_succ t i (by omega)
    have hel := ends_le t i (by omega)
    have hw2 : addI .i64 ((ends (t.extract 0 i) : Nat) : Int) 1 = ((ends (t.extract 0 i) + 1 : Nat) : Int) := by rw [addI_i64 (by omega) (by omega)]; omega
    simp only [W, W1, W3, bt_B, hw, hw2, if_pos (show (i : Int) < (a : Int) by omega), if_pos (show (i : Int) < (t.size : Int) by omega), if_pos (nat_ge _)] at e
    have hi := ih (i + 1) (by omega)
    rw [hs] at hi
    refine Ev2.step e ?_
    by_cases c : B t i = 10
    · rw [if_pos c] at hi
      simp only [if_pos (show ((B t i : Nat) : Int) = 10 by omega)]
      exact hi
    · rw [if_neg c] at hi
      simp only [if_neg (show ¬ ((B t i : Nat) : Int) = 10 by omega)]
      exact hi
theorem L23_ev (t : ByteArray) (ht : t.size ≤ 65536) (a b : Int) (h0 : 0 ≤ a) (hab : a ≤ b) (hb : b ≤ (t.size : Int)) : Ev (fun k => laws_FnRope_L23 k k t a b 0 0 (treeOf t) []) true := by
  obtain ⟨a, rfl⟩ := Int.eq_ofNat_of_zero_le h0
  obtain ⟨b, rfl⟩ := Int.eq_ofNat_of_zero_le (show 0 ≤ b by omega)
  have h := L23_loop t ht a b (by omega) (by omega) a 0 (by omega)
  rw [ends_zero] at h
  exact h.ev
theorem lwAt_ev (more : List Int) (hl : more.length ≤ 1048576) (hm : ∀ x ∈ more, 0 ≤ x ∧ x ≤ 255) (at' : Int) (h0 : 0 ≤ at') : ∃ v, Ev (fun k => laws_lwAt k more at' 256) v ∧ 0 ≤ v ∧ v < 256 := by
  have e := fun k => laws_lwAt.eq more at' 256 k
  by_cases c : more.length = 0
  · refine ⟨0, Ev.ret fun k => ?_, by omega, by omega⟩
    rw [e]
    simp only [W, W1, W2]
    rw [if_neg (by omega), if_pos (by omega)]
  · have r0 : 0 ≤ remI at' (more.length : Int) := by rw [remI_eq]; exact Int.tmod_nonneg _ h0
    have r1 : remI at' (more.length : Int) < (more.length : Int) := by rw [remI_eq]; exact Int.tmod_lt_of_pos _ (by omega)
    obtain ⟨q, hq⟩ := Int.eq_ofNat_of_zero_le r0
    have hqi : remI at' (more.length : Int) = (q : Int) := hq
    have hql : q < more.length := by omega
    have hx := hm more[q] (List.getElem_mem hql)
    have hr : rd more (q : Int) 0 = more[q] := rd_nat more q 0 hql
    have hw : wrI .i64 more[q] = more[q] := wrI_i64 (by omega) (by omega)
    refine ⟨remI more[q] 256, Ev.ret fun k => ?_, by rw [remI_eq]; exact Int.tmod_nonneg _ hx.1, by rw [remI_eq]; exact Int.tmod_lt_of_pos _ (by omega)⟩
    rw [e]
    simp only [W, W1, W2, hqi, hr, hw]
    rw [if_neg (by omega), if_neg (by omega), if_neg (by omega), if_pos (by omega), if_pos (by omega), if_neg (by omega)]
/-! ### the drawn text -/
theorem write_of (p w : Nat) (h : isPoint p = true) (hw : width p = w) : ∃ b : ByteArray, b.size = w ∧ Ev (fun k => spec_l01Write k (p : Int)) b := hw ▸ write_ev p h
theorem ropeText_loop (s : List Int) (z : Int) (a0 : Int) (hs0 : Src s a0 z) : ∀ (f : Nat) (out : ByteArray) (a m : Int), 0 ≤ a ∧ a ≤ (s.length : Int) → out.size + 40 * f ≤ 1000000 →
    ∃ (v : ByteArray) (a' m' : Int), Ev2 (fun k j => spec_l01Src_ropeText_L3 k j out (f : Int) s a m z) (v, (s, (a', (m', z)))) ∧ v.size ≤ 1000000 := by
  obtain ⟨b0, z0, w0⟩ := write_of 512 2 (by decide) (by decide)
  obtain ⟨b1, z1, w1⟩ := write_of 24576 3 (by decide) (by decide)
  obtain ⟨b2, z2, w2⟩ := write_of 24577 3 (by decide) (by decide)
  obtain ⟨b3, z3, w3⟩ := write_of 65536 4 (by decide) (by decide)
  intro f
  induction f with
  | zero =>
    intro out a m ha hout
    have e := fun k j => spec_l01Src_ropeText_L3.eq out 0 s a m z k j
    simp only [W, W1, W3, if_neg (show ¬ (0 : Int) < 0 by omega)] at e
    obtain ⟨v1, a1, m1, e1, ha1, _⟩ := one_ev 60 (by omega) (m := m) (hs0.at ha)
    cases v1 with
    | false =>
      refine ⟨out, a1, m1, Ev2.step e (Ev2.bind e1 ?_), by omega⟩
      simp only [W1]
      exact Ev2.now _
    | true =>
      obtain ⟨v2, a2, m2, e2, ha2, hv2⟩ := n_ev 5 (by omega) (m := m1) (hs0.at ha1)
      have hadd : addI .i64 65533 v2 = 65533 + v2 := addI_i64 (by omega) (by omega)
      obtain ⟨v3, a3, m3, e3, ha3, hv3⟩ := long_ev (bs [97, 98, 99, 10]) (65533 + v2) (by decide) (by decide) (by omega) (by omega) (m := m2) (hs0.at ha2)
      refine ⟨v3, a3, m3, Ev2.step e (Ev2.bind e1 ?_), by omega⟩
      simp only [W1]
      refine Ev2.bind e2 ?_
      simp only [hadd]
      exact Ev2.bind e3 (Ev2.now _)
  | succ f ih =>
    intro out a m ha hout
    have e := fun k j => spec_l01Src_ropeText_L3.eq out ((f + 1 : Nat) : Int) s a m z k j
    have hsub : subI .i64 ((f + 1 : Nat) : Int) 1 = (f : Int) := by rw [subI_i64 (by omega) (by omega)]; omega
    simp only [W, W1, W3, hsub, if_pos (show (0 : Int) < ((f + 1 : Nat) : Int) by omega)] at e
    generalize hlist : ((bs [97, 98, 99, 100, 101, 102, 103, 104, 105, 106]) :: ((bs [10]) :: ((bs [120, 121]) :: (b0 :: ((b1 ++ b2) :: ((bs [255]) :: ((bs [119, 111, 114, 100, 32]) :: ((bs [10, 10]) :: (b3 :: ((bs [48, 49, 50, 51, 52, 53, 54, 55, 56, 57, 48, 49, 50, 51, 52, 53, 54, 55, 56, 57, 48, 49, 50, 51, 52, 53, 54, 55, 56, 57, 48, 49, 50, 51, 52, 53, 54, 55, 56, 57]) :: ([] : List ByteArray))))))))))) = L
    have hall : ∀ x ∈ L, x.size ≤ 40 := by
      subst hlist
      intro x hx
      simp only [List.mem_cons, List.not_mem_nil, or_false] at hx
      rcases hx with rfl | rfl | rfl | rfl | rfl | rfl | rfl | rfl | rfl | rfl
      · decide
      · decide
      · decide
      · omega
      · rw [ByteArray.size_append]; omega
      · decide
      · decide
      · decide
      · omega
      · decide
    have hne : L ≠ [] := by subst hlist; simp
    have hll : L.length ≤ 1048576 := by subst hlist; simp
    obtain ⟨v1, a1, m1, e1, ha1, hv1⟩ := pick_ev L hne hll (m := m) (hs0.at ha)
    have hsz := hall v1 hv1
    obtain ⟨v, a', m', h1, h2⟩ := ih (out ++ v1) a1 m1 ha1 (by rw [ByteArray.size_append]; omega)
    refine ⟨v, a', m', Ev2.step e (Ev2.bind w0 (Ev2.bind w1 (Ev2.bind w2 ?_))), h2⟩
    simp only [if_pos (show (b1.size : Int) + (b2.size : Int) ≤ 9223372036854775807 by omega)]
    refine Ev2.bind w3 ?_
    simp only [hlist]
    refine Ev2.bind e1 ?_
    simp only [if_pos (show (out.size : Int) + (v1.size : Int) ≤ 9223372036854775807 by omega)]
    exact h1
theorem drawRope (code : List Int) (hl : code.length ≤ 1048576) : ∃ t : ByteArray, Ev (fun k => spec_DrawRopeOf k code) t ∧ t.size ≤ 1000000 := by
  obtain ⟨m, z, h1, hs⟩ := source_ev code hl
  have hz0 := hs.z0
  have hz1 := hs.z1
  have e := fun k => spec_DrawRopeOf.eq code k
  have e2 := fun m => fun k => spec_l01Src_ropeText.eq code 0 m z k
  have hadd : addI .i64 6 z = 6 + z := addI_i64 (by omega) (by omega)
  obtain ⟨v1, a1, m1, e1, ha1, hv1⟩ := n_ev (6 + z) (by omega) (m := m) hs
  obtain ⟨f, rfl⟩ := Int.eq_ofNat_of_zero_le hv1.1
  obtain ⟨v, a', m', h2, h3⟩ := ropeText_loop code z 0 hs f (bs []) a1 m1 ha1 (by show 0 + _ ≤ _; omega)
  simp only [hadd, W3] at e e2
  exact ⟨v, Ev.step e (Ev.bind h1 (Ev.bind (Ev.step (e2 m) (Ev.bind e1 h2.ev)) (Ev.now _))), h3⟩
/-! ### the law -/
noncomputable def ropeOf (t : ByteArray) : List T_siiii := if 65536 < t.size then [] else treeOf t
theorem ropeOf_len (t : ByteArray) : (ropeOf t).length ≤ 1048576 := by
  unfold ropeOf
  split
  · simp
  · exact treeOf_len t (by omega)
theorem specRope (t : ByteArray) : Ev (fun k => spec_RopeOf k t) (ropeOf t, []) := by
  have e := fun k => spec_RopeOf.eq t k
  simp only [W, W1, W3] at e
  unfold ropeOf
  by_cases c : 65536 < t.size
  · simp only [if_pos (show (65536 : Int) < (t.size : Int) by omega)] at e
    rw [if_pos c]
    exact Ev.ret e
  · simp only [if_neg (show ¬ (65536 : Int) < (t.size : Int) by omega)] at e
    rw [if_neg c]
    exact Ev.step e (Ev.bind (specTree t (by omega)) (Ev.now _))
theorem implRope (t : ByteArray) : Ev (fun k => impl_RopeOf k t) (ropeOf t, []) := by
  have e := fun k => impl_RopeOf.eq t k
  have hl : Ev (fun k => impl_long k t) (decide ((65536 : Int) < (t.size : Int))) := Ev.ret fun k => by simp only [impl_long.eq, W]
  simp only [W3] at e
  refine Ev.step e (Ev.bind hl ?_)
  unfold ropeOf
  by_cases c : 65536 < t.size
  · simp only [W1, if_pos (show (65536 : Int) < (t.size : Int) by omega)]
    rw [if_pos c]
    exact Ev.now _
  · simp only [W1, if_neg (show ¬ (65536 : Int) < (t.size : Int) by omega)]
    rw [if_neg c]
    exact Ev.bind (implTree t [] (by omega)) (Ev.now _)
theorem L9_loop (more : List Int) (hl : more.length ≤ 1048576) (hm : ∀ x ∈ more, 0 ≤ x ∧ x ≤ 255) (t : ByteArray) : ∀ (suf pre : List T_siiii), ropeOf t = pre ++ suf →
    Ev2 (fun k j => laws_FnRope_L9 k j more t (pre.length : Int) (ropeOf t) [] (ropeOf t) []) true := by
  intro suf
  have hlen := ropeOf_len t
  induction suf with
  | nil =>
    intro pre hp
    have e := fun k j => laws_FnRope_L9.eq more t (pre.length : Int) (ropeOf t) [] (ropeOf t) [] k j
    simp only [same_dec] at e
    simp only [W, W1, W2, W3, if_neg (show ¬ (pre.length : Int) < ((ropeOf t).length : Int) by rw [hp]; exact end_nlt pre)] at e
    refine Ev2.step e ?_
    by_cases c : 65536 < t.size
    · simp only [if_pos (show (65536 : Int) < (t.size : Int) by omega)]
      have : ropeOf t = [] := if_pos c
      rw [this]
      exact Ev2.now _
    · simp only [if_neg (show ¬ (65536 : Int) < (t.size : Int) by omega)]
      obtain ⟨v0, h0, p0, q0⟩ := lwAt_ev more hl hm 0 (by omega)
      obtain ⟨v1, h1, p1, q1⟩ := lwAt_ev more hl hm 1 (by omega)
      have hadd : addI .i64 v0 v1 = v0 + v1 := addI_i64 (by omega) (by omega)
      have hr : ropeOf t = treeOf t := if_neg c
      refine Ev2.bind h0 (Ev2.bind h1 ?_)
      simp only [hadd, hr]
      by_cases c1 : (t.size : Int) < v0 + v1
      · simp only [if_pos c1]
        by_cases c2 : (t.size : Int) < v0
        · simp only [if_pos c2]
          exact (L23_ev t (by omega) (t.size : Int) (t.size : Int) (by omega) (by omega) (by omega)).two
        · simp only [if_neg c2]
          exact (L23_ev t (by omega) v0 (t.size : Int) (by omega) (by omega) (by omega)).two
      · simp only [if_neg c1, if_neg (show ¬ v0 + v1 < v0 by omega)]
        exact (L23_ev t (by omega) v0 (v0 + v1) (by omega) (by omega) (by omega)).two
  | cons x suf ih =>
    intro pre hp
    have hle : pre.length + 1 ≤ (ropeOf t).length := by rw [hp, List.length_append, List.length_cons]; omega
    have e := fun k j => laws_FnRope_L9.eq more t (pre.length : Int) (ropeOf t) [] (ropeOf t) [] k j
    simp only [same_dec] at e
    simp only [W, W1, W2, W3, if_pos (show (pre.length : Int) < ((ropeOf t).length : Int) by omega), if_pos (nat_ge _), next_i pre x (by omega), if_true] at e
    exact Ev2.step e (ih (pre ++ [x]) (by rw [hp]; simp))
theorem pure_FnRope (code more : List Int) (h1 : CT.good (.row e_y) code) (h2 : CT.good (.row e_y) more) : ∃ k, laws_FnRope k code more = some true := by
  refine Ev.has (r := true) ?_
  have e := fun k => laws_FnRope.eq code more k
  simp only [W, W1, W2, W3] at e
  by_cases c1 : 1048576 < code.length
  · simp only [if_pos (show (1048576 : Int) < (code.length : Int) by omega)] at e
    exact Ev.ret e
  by_cases c2 : 1048576 < more.length
  · simp only [if_neg (show ¬ (1048576 : Int) < (code.length : Int) by omega), if_pos (show (1048576 : Int) < (more.length : Int) by omega)] at e
    exact Ev.ret e
  simp only [if_neg (show ¬ (1048576 : Int) < (code.length : Int) by omega), if_neg (show ¬ (1048576 : Int) < (more.length : Int) by omega)] at e
  obtain ⟨t, ht, hts⟩ := drawRope code (by omega)
  have hm : ∀ x ∈ more, 0 ≤ x ∧ x ≤ 255 := fun x hx => by
    have := h2.2 x hx
    have h3 : (Lit.int .u8 x).wf = true := this
    simp only [Lit.wf, IntKind.min, IntKind.max, IntKind.signed, IntKind.bits, Bool.and_eq_true, decide_eq_true_eq] at h3
    simp at h3
    omega
  refine Ev.step e (Ev.bind ht (Ev.bind (implRope t) (Ev.bind (specRope t) ?_)))
  have hz : (([] : List T_sib).length : Int) = 0 := rfl
  simp only [if_true, hz]
  exact (L9_loop more (by omega) hm t (ropeOf t) [] rfl).ev
#print axioms pure_FnRope
end Go.Proofs.YtkghicadebeceaaDoor.RF
