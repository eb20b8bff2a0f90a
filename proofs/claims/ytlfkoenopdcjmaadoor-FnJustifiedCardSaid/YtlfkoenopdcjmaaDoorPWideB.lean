/- How wide a text is, by both sides. -/
import Derived.Test.YtlfkoenopdcjmaaDoorPWideA
namespace Go.Proofs.YtlfkoenopdcjmaaDoor.JF
open Go.Eng Go.RowKit
set_option linter.unusedVariables false
set_option linter.unusedSimpArgs false
/-- a text's first point -/
def p0 (s : ByteArray) : Int := ((Utf8.decode s 0).1 : Int)
/-- how wide a character that begins with p is -/
def wpt (p : Int) : Int := if (12288 ≤ p ∧ p ≤ 23459) ∨ (24576 ≤ p ∧ p ≤ 26623) ∨ (7680 ≤ p ∧ p ≤ 7743) then 2 else if cat p = 1 ∨ cat p = 11 ∨ cat p = 3 then 0 else 1
theorem wpt_le (p : Int) : 0 ≤ wpt p ∧ wpt p ≤ 2 := by
  unfold wpt
  repeat' split
  all_goals omega
theorem char_J4 (c : Int) (x : Bool) : Ev (fun k => spec_l22Char_J4 k c x) (if x = true then 2 else if c = 1 ∨ c = 11 ∨ c = 3 then 0 else 1) := by
  refine Ev.of fun k => ?_
  rw [spec_l22Char_J4.eq]
  cases x with
  | true => rfl
  | false =>
    simp only [W, W1, Bool.false_eq_true, if_false]
    by_cases h1 : c = 1
    · simp [h1]
    · by_cases h2 : c = 11
      · simp [h2]
      · by_cases h3 : c = 3
        · simp [h3]
        · simp [h1, h2, h3]
theorem p0_ok (s : ByteArray) : 0 ≤ p0 s ∧ p0 s ≤ 1114111 := by
  have := point_le s 0
  unfold p0
  omega
theorem specWch (s : ByteArray) (hs : 0 < s.size) (hs2 : s.size ≤ 1048576) : Ev (fun k => spec_l22Char k s) (wpt (p0 s)) := by
  have e := fun k => spec_l22Char.eq s k
  obtain ⟨q0, q1⟩ := p0_ok s
  have hv : (nx s 0).1 = p0 s := nx_val s 0 hs
  simp only [W, W1, W3] at e
  refine Ev.step e (Ev.bind (nx_ev s 0 hs2 hs) ?_)
  rw [hv]
  refine Ev.bind (specCat (p0 s) q0 q1) ?_
  have hpic : Ev (fun k => (spec_l07Picture k (p0 s)).bind fun r2 => spec_l22Char_J4 k (cat (p0 s)) r2) (if pic (p0 s) = true then 2 else if cat (p0 s) = 1 ∨ cat (p0 s) = 11 ∨ cat (p0 s) = 3 then 0 else 1) := Ev.bind (specPicture (p0 s)) (char_J4 _ _)
  have ht := char_J4 (cat (p0 s)) true
  simp only [if_true] at ht
  have hpd : (pic (p0 s) = true) ↔ (7680 ≤ p0 s ∧ p0 s ≤ 7743) := by unfold pic; exact decide_eq_true_iff
  simp only [hpd] at hpic
  unfold wpt
  generalize p0 s = p at *
  by_cases a : 12288 ≤ p
  · simp only [if_pos a]
    by_cases b : p ≤ 23459
    · simp only [if_pos b]
      rw [if_pos (.inl ⟨a, b⟩)]
      exact ht
    · simp only [if_neg b]
      by_cases c : 24576 ≤ p
      · simp only [if_pos c]
        by_cases d : p ≤ 26623
        · simp only [if_pos d]
          rw [if_pos (.inr (.inl ⟨c, d⟩))]
          exact ht
        · simp only [if_neg d]
          rw [if_neg (show ¬ (7680 ≤ p ∧ p ≤ 7743) by omega)] at hpic
          rw [if_neg (by omega)]
          exact hpic
      · simp only [if_neg c]
        rw [if_neg (show ¬ (7680 ≤ p ∧ p ≤ 7743) by omega)] at hpic
        rw [if_neg (by omega)]
        exact hpic
  · simp only [if_neg a, if_neg (show ¬ 24576 ≤ p by omega)]
    by_cases g : 7680 ≤ p ∧ p ≤ 7743
    · rw [if_pos g] at hpic
      rw [if_pos (.inr (.inr g))]
      exact hpic
    · rw [if_neg g] at hpic
      rw [if_neg (by omega)]
      exact hpic
theorem points_loop (x : List T_iiib) (hl : x.length ≤ 1048576) : ∀ (suf pre : List T_iiib), x = pre ++ suf → Ev2 (fun k j => impl_points_L3'1 k j (x.length : Int) (pre.length : Int) (pre.map (·.1)) x) (x.map (·.1)) := by
  intro suf
  induction suf with
  | nil =>
    intro pre hp
    have e := fun k j => impl_points_L3'1.eq (x.length : Int) (pre.length : Int) (pre.map (·.1)) x k j
    simp only [W, W1, if_neg (show ¬ (pre.length : Int) < (x.length : Int) by rw [hp]; exact end_nlt pre)] at e
    have : x.map (·.1) = pre.map (·.1) := by rw [hp]; simp
    rw [this]
    exact Ev2.ret e
  | cons q suf ih =>
    intro pre hp
    have hle : pre.length + 1 ≤ x.length := by rw [hp, List.length_append, List.length_cons]; omega
    have hr : rd x (pre.length : Int) (0, (0, (0, false))) = q := by rw [hp]; exact rd_mid pre suf q _
    have e := fun k j => impl_points_L3'1.eq (x.length : Int) (pre.length : Int) (pre.map (·.1)) x k j
    simp only [W, W1, W2, W3, hr, List.length_map, List.length_cons, List.length_nil, if_pos (nat_ge pre.length), if_pos (show (pre.length : Int) < (x.length : Int) by omega), next_i pre q (by omega), if_pos (show ((pre.length : Int) + ((0 + 1 : Nat) : Int)) * 8 < 140737488355328 by omega)] at e
    have h := ih (pre ++ [q]) (by rw [hp]; simp)
    rw [List.map_append] at h
    exact Ev2.step e h
theorem implPoints (s : ByteArray) (hs : s.size ≤ 1048576) : Ev (fun k => impl_points k s) (pts s) := by
  have e := fun k => impl_points.eq s k
  simp only [W3] at e
  have hl := its_len s
  refine Ev.step e (Ev.bind (implRead s hs) ?_)
  have key : Ev2 (fun k j => impl_points_L3 k j ((its s).length : Int) 0 (its s)) (pts s) := by
    have e := fun k j => impl_points_L3.eq ((its s).length : Int) 0 (its s) k j
    unfold pts
    generalize hx : its s = x at *
    cases x with
    | nil =>
      simp only [W, W1, List.length_nil, if_neg (show ¬ (0 : Int) < ((0 : Nat) : Int) by omega)] at e
      exact Ev2.ret e
    | cons q x =>
      have hr : rd (q :: x) 0 (0, (0, (0, false))) = q := rd_mid [] x q _
      have hadd : addI .i64 0 1 = (1 : Int) := by rw [addI_i64 (by omega) (by omega)]; rfl
      have hlen : ((q :: x).length : Int) = ((x.length + 1 : Nat) : Int) := rfl
      simp only [W, W1, W2, hr, hadd, List.length_cons, List.length_nil, List.nil_append, if_pos (show (0 : Int) < ((x.length + 1 : Nat) : Int) by omega), if_pos (Int.le_refl 0), if_pos (show (((0 : Nat) : Int) + ((0 + 1 : Nat) : Int)) * 8 < 140737488355328 by omega)] at e
      have h := points_loop (q :: x) (by omega) x [q] rfl
      exact Ev2.step e h
  exact key.ev
theorem pts_head (s : ByteArray) (hs : 0 < s.size) : rd (pts s) 0 0 = p0 s ∧ 0 < (pts s).length := by
  unfold pts
  rw [its_cons s hs]
  exact ⟨rd_mid [] _ (p0 s) 0, by simp⟩
/-- how wide characters are together -/
def wsum (l : List ByteArray) : Int := (l.map fun s => wpt (p0 s)).sum
theorem spec_wide_loop (l : List ByteArray) (hl : l.length ≤ 1048576) (ho : ∀ s ∈ l, 0 < s.size ∧ s.size ≤ 65536) : ∀ (suf pre : List ByteArray) (n : Int), l = pre ++ suf → 0 ≤ n → n ≤ 2 * pre.length → Ev2 (fun k j => spec_l22Wide_L4 k j n (pre.length : Int) l) (n + wsum suf) := by
  intro suf
  induction suf with
  | nil =>
    intro pre n hp h0 h1
    have e := fun k j => spec_l22Wide_L4.eq n (pre.length : Int) l k j
    simp only [W, W1, W2, if_neg (show ¬ (pre.length : Int) < (l.length : Int) by rw [hp]; exact end_nlt pre)] at e
    rw [show n + wsum [] = n from Int.add_zero n]
    exact Ev2.ret e
  | cons q suf ih =>
    intro pre n hp h0 h1
    have hle : pre.length + 1 ≤ l.length := by rw [hp, List.length_append, List.length_cons]; omega
    have hr : rd l (pre.length : Int) (bs []) = q := by rw [hp]; exact rd_mid pre suf q _
    obtain ⟨o1, o2⟩ := ho q (by rw [hp]; simp)
    have hw := wpt_le (p0 q)
    have e := fun k j => spec_l22Wide_L4.eq n (pre.length : Int) l k j
    have hadd : addI .i64 n (wpt (p0 q)) = n + wpt (p0 q) := addI_i64 (by omega) (by omega)
    simp only [W, W1, W2, W3, hr, if_pos (nat_ge pre.length), if_pos (show (pre.length : Int) < (l.length : Int) by omega), next_i pre q (by omega)] at e
    have h := ih (pre ++ [q]) (n + wpt (p0 q)) (by rw [hp]; simp) (by omega) (by simp; omega)
    rw [show n + wsum (q :: suf) = n + wpt (p0 q) + wsum suf by show n + (wpt (p0 q) + wsum suf) = _; omega]
    refine Ev2.step e (Ev2.bind (specWch q o1 (by omega)) ?_)
    simp only [hadd]
    exact h
theorem impl_wide_loop (l : List ByteArray) (hl : l.length ≤ 1048576) (ho : ∀ s ∈ l, 0 < s.size ∧ s.size ≤ 65536) : ∀ (suf pre : List ByteArray) (n : Int), l = pre ++ suf → 0 ≤ n → n ≤ 2 * pre.length → Ev2 (fun k j => impl_wideOf_L3 k j n (l.length : Int) (pre.length : Int) l) (n + wsum suf) := by
  intro suf
  induction suf with
  | nil =>
    intro pre n hp h0 h1
    have e := fun k j => impl_wideOf_L3.eq n (l.length : Int) (pre.length : Int) l k j
    simp only [W, W1, W2, if_neg (show ¬ (pre.length : Int) < (l.length : Int) by rw [hp]; exact end_nlt pre)] at e
    rw [show n + wsum [] = n from Int.add_zero n]
    exact Ev2.ret e
  | cons q suf ih =>
    intro pre n hp h0 h1
    have hle : pre.length + 1 ≤ l.length := by rw [hp, List.length_append, List.length_cons]; omega
    have hr : rd l (pre.length : Int) (bs []) = q := by rw [hp]; exact rd_mid pre suf q _
    obtain ⟨o1, o2⟩ := ho q (by rw [hp]; simp)
    obtain ⟨z1, z2⟩ := pts_head q o1
    obtain ⟨q0, q1⟩ := p0_ok q
    have hw := wpt_le (p0 q)
    have e := fun k j => impl_wideOf_L3.eq n (l.length : Int) (pre.length : Int) l k j
    simp only [impl_wideOf_J11.eq] at e
    have hadd2 : addI .i64 n 2 = n + 2 := addI_i64 (by omega) (by omega)
    have hadd1 : addI .i64 n 1 = n + 1 := addI_i64 (by omega) (by omega)
    simp only [W, W1, W2, W3, hr, hadd2, hadd1, if_pos (nat_ge pre.length), if_pos (show (pre.length : Int) < (l.length : Int) by omega), next_i pre q (by omega)] at e
    have h := ih (pre ++ [q]) (n + wpt (p0 q)) (by rw [hp]; simp) (by omega) (by simp; omega)
    rw [show n + wsum (q :: suf) = n + wpt (p0 q) + wsum suf by show n + (wpt (p0 q) + wsum suf) = _; omega]
    refine Ev2.step e (Ev2.bind (implPoints q (by omega)) ?_)
    simp only [z1, if_pos (Int.le_refl 0), if_pos (show (0 : Int) < ((pts q).length : Int) by omega)]
    refine Ev2.bind (implCategory (p0 q) q0 q1) (Ev2.bind (implSyllable (p0 q)) ?_)
    unfold wpt at h ⊢
    generalize p0 q = p at *
    by_cases a : 12288 ≤ p ∧ p ≤ 23459
    · rw [if_pos (.inl a)] at h ⊢
      simp only [show syl p = true from decide_eq_true a, W1]
      exact h
    · simp only [show syl p = false from decide_eq_false a, W1]
      refine Ev2.bind (in_ev p 24576 26623) ?_
      by_cases b : 24576 ≤ p ∧ p ≤ 26623
      · rw [if_pos (.inr (.inl b))] at h ⊢
        simp only [decide_eq_true b, W1]
        exact h
      · simp only [decide_eq_false b, W1]
        refine Ev2.bind (implPicture p) ?_
        by_cases c : 7680 ≤ p ∧ p ≤ 7743
        · rw [if_pos (.inr (.inr c))] at h ⊢
          simp only [show pic p = true from decide_eq_true c, W1]
          exact h
        · simp only [show pic p = false from decide_eq_false c, W1]
          rw [if_neg (by omega)] at h ⊢
          by_cases d1 : cat p = 1
          · rw [if_pos (.inl d1), Int.add_zero] at h
            rw [if_pos (.inl d1), Int.add_zero]
            simp only [if_pos d1]
            exact h
          · by_cases d2 : cat p = 11
            · rw [if_pos (.inr (.inl d2)), Int.add_zero] at h
              rw [if_pos (.inr (.inl d2)), Int.add_zero]
              simp only [if_neg d1, if_pos d2]
              exact h
            · by_cases d3 : cat p = 3
              · rw [if_pos (.inr (.inr d3)), Int.add_zero] at h
                rw [if_pos (.inr (.inr d3)), Int.add_zero]
                simp only [if_neg d1, if_neg d2, if_pos d3]
                exact h
              · rw [if_neg (by omega)] at h
                rw [if_neg (by omega)]
                simp only [if_neg d1, if_neg d2, if_neg d3]
                exact h
/-- how wide a text is -/
def wide (t : ByteArray) : Int := wsum (chs t)
theorem specWide (t : ByteArray) (ht : t.size ≤ 65536) : Ev (fun k => spec_l22Wide k t) (wide t) := by
  have e := fun k => spec_l22Wide.eq t k
  simp only [W3] at e
  have hl := cuts_len t
  obtain ⟨c1, c2⟩ := chs_ok t ht
  have h := (spec_wide_loop (chs t) (by omega) c2 (chs t) [] 0 rfl (Int.le_refl 0) (Int.le_refl 0)).ev
  rw [Int.zero_add] at h
  exact Ev.step e (Ev.bind (specChars t ht) (Ev.bind (specPieces t (cuts t) (by omega) (cuts_rise t).rise) h))
theorem implWide (t : ByteArray) (ht : t.size ≤ 65536) : Ev (fun k => impl_wideOf k t) (wide t) := by
  have e := fun k => impl_wideOf.eq t k
  simp only [W, W3] at e
  obtain ⟨c1, c2⟩ := chs_ok t ht
  have h := (impl_wide_loop (chs t) (by omega) c2 (chs t) [] 0 rfl (Int.le_refl 0) (Int.le_refl 0)).ev
  rw [Int.zero_add] at h
  exact Ev.step e (Ev.bind (implChars t ht) h)
end Go.Proofs.YtlfkoenopdcjmaaDoor.JF
