/- DiffTexts, whole. -/
import Derived.Test.YtkkjkpliiinbjaaDoorPDiff
namespace Go.Proofs.YtkkjkpliiinbjaaDoor.DF
open Go.Eng Go.RowKit
set_option linter.unusedVariables false
set_option linter.unusedSimpArgs false
theorem seg_ok (x : List ByteArray) (hl : x.length ≤ 300) (hs : ∀ s ∈ x, s.size ≤ 65536) (p i : Nat) : ((x.take p).drop i).length ≤ 300 ∧ (∀ s ∈ (x.take p).drop i, s.size ≤ 65536) ∧ (joinL ((x.take p).drop i)).size ≤ 19660800 := by
  have h1 : ((x.take p).drop i).length ≤ 300 := by rw [List.length_drop, List.length_take]; omega
  have h2 : ∀ s ∈ (x.take p).drop i, s.size ≤ 65536 := fun s h => hs s (List.mem_of_mem_take (List.mem_of_mem_drop h))
  have h3 := joinL_size _ h2
  exact ⟨h1, h2, by omega⟩
section
variable (x y : List ByteArray) (hx : x.length ≤ 300) (hxs : ∀ s ∈ x, s.size ≤ 65536) (hy : y.length ≤ 300) (hys : ∀ s ∈ y, s.size ≤ 65536)
include hx hxs hy hys
omit hx hxs hy hys in
theorem impF_nat (pn qn : Nat) (r : List (Int × Int)) (t : Int) (i j : Nat) : impF x y (((pn : Int), (qn : Int)) :: r) t i j = (if joinL ((x.take pn).drop i) ++ joinL ((y.take qn).drop j) = bs [] then [] else [(t, (joinL ((x.take pn).drop i), (joinL ((y.take qn).drop j), 0)))]) ++
      impF x y r (if (pn : Int) < (x.length : Int) then t + ((joinL ((y.take qn).drop j)).size : Int) + ((rd x (pn : Int) (bs [])).size : Int) else t + ((joinL ((y.take qn).drop j)).size : Int)) (pn + 1) (qn + 1) := rfl
theorem impl_diff1 (P : List T_ii) (hP : P.length ≤ 301) : ∀ (suf pre : List T_ii) (t : Int) (i j : Nat) (out : List T_issi), P = pre ++ suf → VP x.length y.length i j suf → 0 ≤ t → t ≤ pre.length * 20000000 → out.length ≤ pre.length →
    Ev2 (fun k q => impl_DiffTexts_L9'1 k q t (i : Int) (j : Int) (P.length : Int) (pre.length : Int) x y out P) (out ++ impF x y suf t i j) := by
  intro suf
  induction suf with
  | nil =>
    intro pre t i j out hp hv h0 h1 h2
    have e := fun k q => impl_DiffTexts_L9'1.eq t (i : Int) (j : Int) (P.length : Int) (pre.length : Int) x y out P k q
    simp only [W, W1, if_neg (show ¬ (pre.length : Int) < (P.length : Int) by rw [hp]; exact end_nlt pre)] at e
    rw [show impF x y [] t i j = [] from rfl, List.append_nil]
    exact Ev2.ret e
  | cons pq suf ih =>
    intro pre t i j out hp hv h0 h1 h2
    obtain ⟨p, q⟩ := pq
    obtain ⟨⟨v1, v2⟩, ⟨v3, v4⟩, v5⟩ := hv
    obtain ⟨pn, rfl⟩ := Int.eq_ofNat_of_zero_le (show 0 ≤ p by omega)
    obtain ⟨qn, rfl⟩ := Int.eq_ofNat_of_zero_le (show 0 ≤ q by omega)
    rw [Int.toNat_natCast, Int.toNat_natCast] at v5
    have hle : pre.length + 1 ≤ P.length := by rw [hp, List.length_append, List.length_cons]; omega
    have hr : rd P (pre.length : Int) (0, 0) = ((pn : Int), (qn : Int)) := by rw [hp]; exact rd_mid pre suf _ _
    obtain ⟨g1, g2, g3⟩ := seg_ok x hx hxs pn i
    obtain ⟨c1, c2, c3⟩ := seg_ok y hy hys qn j
    have haddp : addI .i64 (pn : Int) 1 = ((pn + 1 : Nat) : Int) := by rw [addI_i64 (by omega) (by omega)]; omega
    have haddq : addI .i64 (qn : Int) 1 = ((qn + 1 : Nat) : Int) := by rw [addI_i64 (by omega) (by omega)]; omega
    have e := fun k q => impl_DiffTexts_L9'1.eq t (i : Int) (j : Int) (P.length : Int) (pre.length : Int) x y out P k q
    simp only [impl_DiffTexts_J14.eq] at e
    simp only [W, W1, W2, W3, hr, haddp, haddq, Int.toNat_natCast, List.length_cons, List.length_nil, if_pos (show (pre.length : Int) < (P.length : Int) by omega), if_pos (nat_ge pre.length), if_pos (nat_ge i), if_pos (nat_ge j), if_pos (nat_ge pn), if_pos v1, if_pos v2, if_pos v3, if_pos v4, next_i pre ((pn : Int), (qn : Int)) (by omega), if_pos (show ((out.length : Int) + ((0 + 1 : Nat) : Int)) * 48 < 140737488355328 by omega)] at e
    refine Ev2.step e (Ev2.bind (join_ev _ (by omega) g2) (Ev2.bind (join_ev _ (by omega) c2) ?_))
    rw [impF_nat x y]
    generalize joinL ((x.take pn).drop i) = G at *
    generalize joinL ((y.take qn).drop j) = C at *
    have hadd1 : addI .i64 t (C.size : Int) = t + (C.size : Int) := addI_i64 (by omega) (by omega)
    have hlen : (pre ++ [((pn : Int), (qn : Int))]).length = pre.length + 1 := by simp
    simp only [hadd1, if_pos (show (G.size : Int) + (C.size : Int) ≤ 9223372036854775807 by omega)]
    by_cases d : pn < x.length
    · have hsz : (rd x (pn : Int) (bs [])).size ≤ 65536 := by rw [rd_nat x pn _ d]; exact hxs _ (List.getElem_mem _)
      have hadd2 : addI .i64 (t + (C.size : Int)) ((rd x (pn : Int) (bs [])).size : Int) = t + (C.size : Int) + ((rd x (pn : Int) (bs [])).size : Int) := addI_i64 (by omega) (by omega)
      simp only [hadd2, if_pos (show (pn : Int) < (x.length : Int) by omega)]
      by_cases c : G ++ C = bs []
      · simp only [if_pos c, List.nil_append]
        exact ih (pre ++ [((pn : Int), (qn : Int))]) _ (pn + 1) (qn + 1) out (by rw [hp]; simp) v5 (by omega) (by rw [hlen]; omega) (by rw [hlen]; omega)
      · simp only [if_neg c]
        have h := ih (pre ++ [((pn : Int), (qn : Int))]) (t + (C.size : Int) + ((rd x (pn : Int) (bs [])).size : Int)) (pn + 1) (qn + 1) (out ++ [(t, (G, (C, 0)))]) (by rw [hp]; simp) v5 (by omega) (by rw [hlen]; omega) (by rw [hlen]; simp; omega)
        rw [List.append_assoc] at h
        exact h
    · simp only [if_neg (show ¬ (pn : Int) < (x.length : Int) by omega)]
      by_cases c : G ++ C = bs []
      · simp only [if_pos c, List.nil_append]
        exact ih (pre ++ [((pn : Int), (qn : Int))]) _ (pn + 1) (qn + 1) out (by rw [hp]; simp) v5 (by omega) (by rw [hlen]; omega) (by rw [hlen]; omega)
      · simp only [if_neg c]
        have h := ih (pre ++ [((pn : Int), (qn : Int))]) (t + (C.size : Int)) (pn + 1) (qn + 1) (out ++ [(t, (G, (C, 0)))]) (by rw [hp]; simp) v5 (by omega) (by rw [hlen]; omega) (by rw [hlen]; simp; omega)
        rw [List.append_assoc] at h
        exact h
theorem impl_diff (P : List T_ii) (hP : P.length ≤ 301) : ∀ (suf pre : List T_ii) (t : Int) (i j : Nat), P = pre ++ suf → VP x.length y.length i j suf → 0 ≤ t → t ≤ pre.length * 20000000 →
    Ev2 (fun k q => impl_DiffTexts_L9 k q t (i : Int) (j : Int) (P.length : Int) (pre.length : Int) x y P) (impF x y suf t i j) := by
  intro suf
  induction suf with
  | nil =>
    intro pre t i j hp hv h0 h1
    have e := fun k q => impl_DiffTexts_L9.eq t (i : Int) (j : Int) (P.length : Int) (pre.length : Int) x y P k q
    simp only [W, W1, if_neg (show ¬ (pre.length : Int) < (P.length : Int) by rw [hp]; exact end_nlt pre)] at e
    exact Ev2.ret e
  | cons pq suf ih =>
    intro pre t i j hp hv h0 h1
    obtain ⟨p, q⟩ := pq
    obtain ⟨⟨v1, v2⟩, ⟨v3, v4⟩, v5⟩ := hv
    obtain ⟨pn, rfl⟩ := Int.eq_ofNat_of_zero_le (show 0 ≤ p by omega)
    obtain ⟨qn, rfl⟩ := Int.eq_ofNat_of_zero_le (show 0 ≤ q by omega)
    rw [Int.toNat_natCast, Int.toNat_natCast] at v5
    have hle : pre.length + 1 ≤ P.length := by rw [hp, List.length_append, List.length_cons]; omega
    have hr : rd P (pre.length : Int) (0, 0) = ((pn : Int), (qn : Int)) := by rw [hp]; exact rd_mid pre suf _ _
    obtain ⟨g1, g2, g3⟩ := seg_ok x hx hxs pn i
    obtain ⟨c1, c2, c3⟩ := seg_ok y hy hys qn j
    have haddp : addI .i64 (pn : Int) 1 = ((pn + 1 : Nat) : Int) := by rw [addI_i64 (by omega) (by omega)]; omega
    have haddq : addI .i64 (qn : Int) 1 = ((qn + 1 : Nat) : Int) := by rw [addI_i64 (by omega) (by omega)]; omega
    have e := fun k q => impl_DiffTexts_L9.eq t (i : Int) (j : Int) (P.length : Int) (pre.length : Int) x y P k q
    simp only [impl_DiffTexts_J14.eq, impl_DiffTexts_J14'1.eq] at e
    simp only [W, W1, W2, W3, hr, haddp, haddq, Int.toNat_natCast, List.length_cons, List.length_nil, List.nil_append, if_pos (show (pre.length : Int) < (P.length : Int) by omega), if_pos (nat_ge pre.length), if_pos (nat_ge i), if_pos (nat_ge j), if_pos (nat_ge pn), if_pos v1, if_pos v2, if_pos v3, if_pos v4, next_i pre ((pn : Int), (qn : Int)) (by omega), if_pos (show (((0 : Nat) : Int) + ((0 + 1 : Nat) : Int)) * 48 < 140737488355328 by omega)] at e
    refine Ev2.step e (Ev2.bind (join_ev _ (by omega) g2) (Ev2.bind (join_ev _ (by omega) c2) ?_))
    rw [impF_nat x y]
    generalize joinL ((x.take pn).drop i) = G at *
    generalize joinL ((y.take qn).drop j) = C at *
    have hadd1 : addI .i64 t (C.size : Int) = t + (C.size : Int) := addI_i64 (by omega) (by omega)
    have hlen : (pre ++ [((pn : Int), (qn : Int))]).length = pre.length + 1 := by simp
    simp only [hadd1, if_pos (show (G.size : Int) + (C.size : Int) ≤ 9223372036854775807 by omega)]
    by_cases d : pn < x.length
    · have hsz : (rd x (pn : Int) (bs [])).size ≤ 65536 := by rw [rd_nat x pn _ d]; exact hxs _ (List.getElem_mem _)
      have hadd2 : addI .i64 (t + (C.size : Int)) ((rd x (pn : Int) (bs [])).size : Int) = t + (C.size : Int) + ((rd x (pn : Int) (bs [])).size : Int) := addI_i64 (by omega) (by omega)
      simp only [hadd2, if_pos (show (pn : Int) < (x.length : Int) by omega)]
      by_cases c : G ++ C = bs []
      · simp only [if_pos c, List.nil_append]
        exact ih (pre ++ [((pn : Int), (qn : Int))]) _ (pn + 1) (qn + 1) (by rw [hp]; simp) v5 (by omega) (by rw [hlen]; omega)
      · simp only [if_neg c]
        exact impl_diff1 x y hx hxs hy hys P hP suf (pre ++ [((pn : Int), (qn : Int))]) _ (pn + 1) (qn + 1) [(t, (G, (C, 0)))] (by rw [hp]; simp) v5 (by omega) (by rw [hlen]; omega) (by rw [hlen]; simp)
    · simp only [if_neg (show ¬ (pn : Int) < (x.length : Int) by omega)]
      by_cases c : G ++ C = bs []
      · simp only [if_pos c, List.nil_append]
        exact ih (pre ++ [((pn : Int), (qn : Int))]) _ (pn + 1) (qn + 1) (by rw [hp]; simp) v5 (by omega) (by rw [hlen]; omega)
      · simp only [if_neg c]
        exact impl_diff1 x y hx hxs hy hys P hP suf (pre ++ [((pn : Int), (qn : Int))]) _ (pn + 1) (qn + 1) [(t, (G, (C, 0)))] (by rw [hp]; simp) v5 (by omega) (by rw [hlen]; omega) (by rw [hlen]; simp)
theorem spec_diff (K : List Int) (hK : K.length ≤ 301) : ∀ (suf pre : List Int) (t : Int) (kk : Nat) (gone : ByteArray) (out : List T_issi), K = pre ++ suf → VS x.length y.length pre.length kk suf → 0 ≤ t → t ≤ pre.length * 20000000 → gone.size ≤ pre.length * 65536 → out.length ≤ pre.length →
    Ev2 (fun k q => spec_DiffTexts_L13 k q t (kk : Int) gone (pre.length : Int) out x y K) (out ++ spF x y suf pre.length t kk gone) := by
  intro suf
  induction suf with
  | nil =>
    intro pre t kk gone out hp hv h0 h1 h2 h3
    have e := fun k q => spec_DiffTexts_L13.eq t (kk : Int) gone (pre.length : Int) out x y K k q
    simp only [W, W1, W2, if_neg (show ¬ (pre.length : Int) < (K.length : Int) by rw [hp]; exact end_nlt pre)] at e
    rw [show spF x y [] pre.length t kk gone = [] from rfl, List.append_nil]
    exact Ev2.ret e
  | cons v suf ih =>
    intro pre t kk gone out hp hv h0 h1 h2 h3
    have hle : pre.length + 1 ≤ K.length := by rw [hp, List.length_append, List.length_cons]; omega
    have hr : rd K (pre.length : Int) 0 = v := by rw [hp]; exact rd_mid pre suf _ _
    have hlen : (pre ++ [v]).length = pre.length + 1 := by simp
    have e := fun k q => spec_DiffTexts_L13.eq t (kk : Int) gone (pre.length : Int) out x y K k q
    simp only [spec_DiffTexts_J22.eq] at e
    simp only [W, W1, W2, W3, hr, List.length_cons, List.length_nil, if_pos (show (pre.length : Int) < (K.length : Int) by omega), if_pos (nat_ge pre.length), if_pos (nat_ge kk), next_i pre v (by omega), if_pos (show ((out.length : Int) + ((0 + 1 : Nat) : Int)) * 48 < 140737488355328 by omega)] at e
    unfold VS at hv
    show Ev2 _ (out ++ (if v < 0 then _ else _))
    by_cases c : v < 0
    · rw [if_pos c] at hv ⊢
      obtain ⟨d, v5⟩ := hv
      have hsz : (rd x (pre.length : Int) (bs [])).size ≤ 65536 := by rw [rd_nat x _ _ d]; exact hxs _ (List.getElem_mem _)
      simp only [if_pos c, if_pos (show (pre.length : Int) < (x.length : Int) by omega), if_pos (show (gone.size : Int) + ((rd x (pre.length : Int) (bs [])).size : Int) ≤ 9223372036854775807 by omega)] at e
      have h := ih (pre ++ [v]) t kk (gone ++ rd x (pre.length : Int) (bs [])) out (by rw [hp]; simp) (by rw [hlen]; exact v5) h0 (by rw [hlen]; omega) (by rw [hlen, ByteArray.size_append]; omega) (by rw [hlen]; omega)
      rw [hlen] at h
      rw [hlen] at e
      exact Ev2.step e h
    · rw [if_neg c] at hv ⊢
      obtain ⟨⟨v3, v4⟩, v5⟩ := hv
      obtain ⟨vn, rfl⟩ := Int.eq_ofNat_of_zero_le (show 0 ≤ v by omega)
      rw [Int.toNat_natCast] at v5 ⊢
      obtain ⟨c1, c2, c3⟩ := seg_ok y hy hys vn kk
      have haddq : addI .i64 (vn : Int) 1 = ((vn + 1 : Nat) : Int) := by rw [addI_i64 (by omega) (by omega)]; omega
      simp only [if_neg c, Int.toNat_natCast, haddq, if_pos v3, if_pos v4] at e
      refine Ev2.step e (Ev2.bind (joined_ev _ (by omega) c2) ?_)
      generalize joinL ((y.take vn).drop kk) = C at *
      have hadd1 : addI .i64 t (C.size : Int) = t + (C.size : Int) := addI_i64 (by omega) (by omega)
      simp only [hadd1]
      have fin : ∀ (t' : Int) (o : List T_issi), t' = t + (C.size : Int) → o.length ≤ pre.length + 1 → Ev2 (fun k q => if (pre.length : Int) < (x.length : Int) then (if (pre.length : Int) < (x.length : Int) then spec_DiffTexts_L13 k q (addI .i64 t' ((rd x (pre.length : Int) (bs [])).size : Int)) ((vn + 1 : Nat) : Int) (bs []) ((pre ++ [(vn : Int)]).length : Int) o x y K else none) else spec_DiffTexts_L13 k q t' ((vn + 1 : Nat) : Int) (bs []) ((pre ++ [(vn : Int)]).length : Int) o x y K)
          (o ++ spF x y suf (pre.length + 1) (if (pre.length : Int) < (x.length : Int) then t + (C.size : Int) + ((rd x (pre.length : Int) (bs [])).size : Int) else t + (C.size : Int)) (vn + 1) (bs [])) := fun t' o ht ho => by
        subst ht
        have hl2 : (pre ++ [(vn : Int)]).length = pre.length + 1 := by simp
        by_cases d : pre.length < x.length
        · have hsz : (rd x (pre.length : Int) (bs [])).size ≤ 65536 := by rw [rd_nat x _ _ d]; exact hxs _ (List.getElem_mem _)
          have hadd2 : addI .i64 (t + (C.size : Int)) ((rd x (pre.length : Int) (bs [])).size : Int) = t + (C.size : Int) + ((rd x (pre.length : Int) (bs [])).size : Int) := addI_i64 (by omega) (by omega)
          simp only [hadd2, if_pos (show (pre.length : Int) < (x.length : Int) by omega)]
          have h := ih (pre ++ [(vn : Int)]) (t + (C.size : Int) + ((rd x (pre.length : Int) (bs [])).size : Int)) (vn + 1) (bs []) o (by rw [hp]; simp) (by rw [hl2]; exact v5) (by omega) (by rw [hl2]; omega) (Nat.zero_le _) (by rw [hl2]; exact ho)
          rw [hl2] at h ⊢
          exact h
        · simp only [if_neg (show ¬ (pre.length : Int) < (x.length : Int) by omega)]
          have h := ih (pre ++ [(vn : Int)]) (t + (C.size : Int)) (vn + 1) (bs []) o (by rw [hp]; simp) (by rw [hl2]; exact v5) (by omega) (by rw [hl2]; omega) (Nat.zero_le _) (by rw [hl2]; exact ho)
          rw [hl2] at h ⊢
          exact h
      by_cases g : gone = bs []
      · subst g
        simp only [if_true, true_and]
        by_cases cc : C = bs []
        · simp only [if_pos cc, List.nil_append]
          have hC0 : (C.size : Int) = 0 := by rw [cc]; rfl
          exact fin t out (by omega) (by omega)
        · simp only [if_neg cc]
          have h := fin (t + (C.size : Int)) (out ++ [(t, (bs [], (C, 0)))]) rfl (by simp; omega)
          rw [List.append_assoc] at h
          exact h
      · simp only [if_neg g, if_neg (show ¬ (gone = bs [] ∧ C = bs []) from fun h => g h.1)]
        have h := fin (t + (C.size : Int)) (out ++ [(t, (gone, (C, 0)))]) rfl (by simp; omega)
        rw [List.append_assoc] at h
        exact h
end
/-- the steps between two texts -/
noncomputable def diffT (a b : ByteArray) : List T_issi :=
  if 65536 < a.size then [] else if 65536 < b.size then [] else if 300 < (chs a).length then [] else if 300 < (chs b).length then [] else
    spF (chs a) (chs b) (keptL (chs a) (chs b) ++ [((chs b).length : Int)]) 0 0 0 (bs [])
theorem long_ev (s : ByteArray) : Ev (fun k => impl_long k s) (decide ((65536 : Int) < (s.size : Int))) := by
  have eL := fun k => impl_long.eq s k
  simp only [W] at eL
  exact Ev.ret eL
theorem implDiff (a b : ByteArray) : Ev (fun k => impl_DiffTexts k a b) (diffT a b) := by
  have e := fun k => impl_DiffTexts.eq a b k
  simp only [W, W1, W2, W3] at e
  refine Ev.step e (Ev.bind (long_ev a) ?_)
  unfold diffT
  by_cases c1 : 65536 < a.size
  · rw [if_pos c1]
    simp only [decide_eq_true (show (65536 : Int) < (a.size : Int) by omega), W1]
    exact Ev.now _
  rw [if_neg c1]
  simp only [decide_eq_false (show ¬ (65536 : Int) < (a.size : Int) by omega), W1]
  refine Ev.bind (long_ev b) ?_
  by_cases c2 : 65536 < b.size
  · rw [if_pos c2]
    simp only [decide_eq_true (show (65536 : Int) < (b.size : Int) by omega), W1]
    exact Ev.now _
  rw [if_neg c2]
  simp only [decide_eq_false (show ¬ (65536 : Int) < (b.size : Int) by omega), W1]
  refine Ev.bind (implChars a (by omega)) (Ev.bind (implChars b (by omega)) ?_)
  by_cases c3 : 300 < (chs a).length
  · rw [if_pos c3]
    simp only [if_pos (show (300 : Int) < ((chs a).length : Int) by omega)]
    exact Ev.now _
  rw [if_neg c3]
  simp only [if_neg (show ¬ (300 : Int) < ((chs a).length : Int) by omega)]
  by_cases c4 : 300 < (chs b).length
  · rw [if_pos c4]
    simp only [if_pos (show (300 : Int) < ((chs b).length : Int) by omega)]
    exact Ev.now _
  rw [if_neg c4]
  simp only [if_neg (show ¬ (300 : Int) < ((chs b).length : Int) by omega)]
  have oa := (chs_ok a (by omega)).2
  have ob := (chs_ok b (by omega)).2
  refine Ev.bind (implKept (chs a) (chs b) (by omega) (by omega)) ?_
  have hkl := keptL_len (chs a) (chs b)
  have hpl : ∀ (l : List Int) (i : Nat), (pairsOf i l).length ≤ l.length := fun l => by
    induction l with
    | nil => intro i; exact Nat.le_refl _
    | cons v l ih =>
      intro i
      have := ih (i + 1)
      unfold pairsOf
      split
      · rw [List.length_cons]; omega
      · rw [List.length_cons, List.length_cons]; omega
  have hp := hpl (keptL (chs a) (chs b)) 0
  simp only [List.length_cons, List.length_nil, if_pos (show (((pairsOf 0 (keptL (chs a) (chs b))).length : Int) + ((0 + 1 : Nat) : Int)) * 16 < 140737488355328 by omega)]
  have h := (impl_diff (chs a) (chs b) (by omega) (fun s hs => (oa s hs).2) (by omega) (fun s hs => (ob s hs).2) (pairsOf 0 (keptL (chs a) (chs b)) ++ [(((chs a).length : Int), ((chs b).length : Int))]) (by simp; omega)
    (pairsOf 0 (keptL (chs a) (chs b)) ++ [(((chs a).length : Int), ((chs b).length : Int))]) [] 0 0 0 rfl (vl_vp _ _ _ 0 0 0 (Nat.le_refl _) (by omega) (keptL_valid _ _)) (Int.le_refl 0) (by omega)).ev
  rw [imp_sp (chs a) (chs b) (keptL (chs a) (chs b)) 0 0 0 0 (Nat.le_refl _) (by omega)] at h
  exact h
theorem specDiff (a b : ByteArray) : Ev (fun k => spec_DiffTexts k a b) (diffT a b) := by
  have e := fun k => spec_DiffTexts.eq a b k
  simp only [W, W1, W2, W3] at e
  unfold diffT
  by_cases c1 : 65536 < a.size
  · rw [if_pos c1]
    simp only [if_pos (show (65536 : Int) < (a.size : Int) by omega)] at e
    exact Ev.ret e
  rw [if_neg c1]
  simp only [if_neg (show ¬ (65536 : Int) < (a.size : Int) by omega)] at e
  by_cases c2 : 65536 < b.size
  · rw [if_pos c2]
    simp only [if_pos (show (65536 : Int) < (b.size : Int) by omega)] at e
    exact Ev.ret e
  rw [if_neg c2]
  simp only [if_neg (show ¬ (65536 : Int) < (b.size : Int) by omega)] at e
  have la := cuts_len a
  have lb := cuts_len b
  refine Ev.step e (Ev.bind (specChars a (by omega)) (Ev.bind (specPieces a (cuts a) (by omega) (cuts_rise a).rise) (Ev.bind (specChars b (by omega)) (Ev.bind (specPieces b (cuts b) (by omega) (cuts_rise b).rise) ?_))))
  show Ev (fun k => if (300 : Int) < ((chs a).length : Int) then _ else if (300 : Int) < ((chs b).length : Int) then _ else (spec_l21Kept k (chs a) (chs b)).bind _) _
  by_cases c3 : 300 < (chs a).length
  · rw [if_pos c3]
    simp only [if_pos (show (300 : Int) < ((chs a).length : Int) by omega)]
    exact Ev.now _
  rw [if_neg c3]
  simp only [if_neg (show ¬ (300 : Int) < ((chs a).length : Int) by omega)]
  by_cases c4 : 300 < (chs b).length
  · rw [if_pos c4]
    simp only [if_pos (show (300 : Int) < ((chs b).length : Int) by omega)]
    exact Ev.now _
  rw [if_neg c4]
  simp only [if_neg (show ¬ (300 : Int) < ((chs b).length : Int) by omega)]
  have oa := (chs_ok a (by omega)).2
  have ob := (chs_ok b (by omega)).2
  refine Ev.bind (specKept (chs a) (chs b) (by omega) (by omega)) ?_
  have hkl := keptL_len (chs a) (chs b)
  have h := (spec_diff (chs a) (chs b) (by omega) (fun s hs => (oa s hs).2) (by omega) (fun s hs => (ob s hs).2) (keptL (chs a) (chs b) ++ [((chs b).length : Int)]) (by simp; omega)
    (keptL (chs a) (chs b) ++ [((chs b).length : Int)]) [] 0 0 (bs []) [] rfl (vl_vs _ _ _ 0 0 (by omega) (keptL_valid _ _)) (Int.le_refl 0) (by omega) (Nat.le_refl _) (Nat.le_refl _)).ev
  show Ev (fun k => if (((keptL (chs a) (chs b)).length : Int) + (([((chs b).length : Int)] : List Int).length : Int)) * 8 < 140737488355328 then spec_DiffTexts_L13 k k 0 0 (bs []) 0 [] (chs a) (chs b) (keptL (chs a) (chs b) ++ [((chs b).length : Int)]) else none) _
  simp only [List.length_cons, List.length_nil, if_pos (show (((keptL (chs a) (chs b)).length : Int) + ((0 + 1 : Nat) : Int)) * 8 < 140737488355328 by omega)]
  exact h
theorem spF_len (x y : List ByteArray) : ∀ (l : List Int) (i : Nat) (t : Int) (k : Nat) (g : ByteArray), (spF x y l i t k g).length ≤ l.length := by
  intro l
  induction l with
  | nil => intro i t k g; exact Nat.le_refl _
  | cons v l ih =>
    intro i t k g
    unfold spF
    split
    · have := ih (i + 1) t k (g ++ rd x (i : Int) (bs []))
      rw [List.length_cons]; omega
    · have := fun t' => ih (i + 1) t' (v.toNat + 1) (bs [])
      rw [List.length_append, List.length_cons]
      split
      · have := this (if (i : Int) < (x.length : Int) then t + ((joinL ((y.take v.toNat).drop k)).size : Int) + ((rd x (i : Int) (bs [])).size : Int) else t + ((joinL ((y.take v.toNat).drop k)).size : Int))
        simp only [List.length_nil]; omega
      · have := this (if (i : Int) < (x.length : Int) then t + ((joinL ((y.take v.toNat).drop k)).size : Int) + ((rd x (i : Int) (bs [])).size : Int) else t + ((joinL ((y.take v.toNat).drop k)).size : Int))
        simp only [List.length_cons, List.length_nil]; omega
theorem diffT_len (a b : ByteArray) : (diffT a b).length ≤ 301 := by
  unfold diffT
  split
  · exact Nat.zero_le _
  split
  · exact Nat.zero_le _
  split
  · exact Nat.zero_le _
  split
  · exact Nat.zero_le _
  have h := spF_len (chs a) (chs b) (keptL (chs a) (chs b) ++ [((chs b).length : Int)]) 0 0 0 (bs [])
  rw [List.length_append, keptL_len] at h
  simp only [List.length_cons, List.length_nil] at h
  omega
end Go.Proofs.YtkkjkpliiinbjaaDoor.DF
