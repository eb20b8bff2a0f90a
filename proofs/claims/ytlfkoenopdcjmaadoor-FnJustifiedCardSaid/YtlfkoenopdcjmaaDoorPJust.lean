/- Justified, whole. -/
import Derived.Test.YtlfkoenopdcjmaaDoorPJustB
namespace Go.Proofs.YtlfkoenopdcjmaaDoor.JF
open Go.Eng Go.RowKit
set_option linter.unusedVariables false
set_option linter.unusedSimpArgs false
theorem wsum_range (l : List ByteArray) : 0 ≤ wsum l ∧ wsum l ≤ 2 * (l.length : Int) := by
  induction l with
  | nil => exact ⟨Int.le_refl 0, Int.le_refl 0⟩
  | cons q l ih =>
    have h := wpt_le (p0 q)
    have e : wsum (q :: l) = wpt (p0 q) + wsum l := rfl
    rw [e, List.length_cons]
    omega
theorem wide_range (t : ByteArray) (ht : t.size ≤ 65536) : 0 ≤ wide t ∧ wide t ≤ 131076 := by
  have h := wsum_range (chs t)
  have := (chs_ok t ht).1
  unfold wide
  omega
theorem wid_le4 (t : ByteArray) (i : Nat) : wid t i ≤ 4 := by
  unfold wid
  rw [Lib.decode_N]
  generalize (t.data.toList.getD i 0).toNat = b0 at *
  generalize (t.data.toList.getD (i + 1) 0).toNat = b1 at *
  generalize (t.data.toList.getD (i + 2) 0).toNat = b2 at *
  generalize (t.data.toList.getD (i + 3) 0).toNat = b3 at *
  unfold Lib.decodeN
  repeat' split
  all_goals first | (show (_ : Nat) ≤ 4; omega) | decide
theorem items_four (t : ByteArray) : ∀ m i, t.size ≤ i + m → t.size ≤ i + 4 * (items t m i).length := by
  intro m
  induction m with
  | zero => intro i h; omega
  | succ m ih =>
    intro i h
    unfold items
    by_cases c : i < t.size
    · rw [if_pos c]
      have h1 := wid_le4 t i
      have h2 := (wid_pos t i c).1
      have := ih (i + wid t i) (by omega)
      rw [List.length_cons]
      omega
    · rw [if_neg c]
      omega
theorem pts_four (t : ByteArray) : t.size ≤ 4 * (pts t).length := by
  have := items_four t t.size 0 (by omega)
  rw [pts_len]
  unfold its
  omega
theorem specPts_loop (t : ByteArray) (ht : t.size ≤ 1048576) : ∀ (m i : Nat) (out : List Int), t.size ≤ i + m → out.length ≤ i → i ≤ t.size →
    Ev2 (fun k j => spec_l01Points_L3 k j t (i : Int) out) (out ++ (items t m i).map (·.1)) := by
  intro m
  induction m with
  | zero =>
    intro i out hi ho hle
    have e := fun k j => spec_l01Points_L3.eq t (i : Int) out k j
    simp only [W, W1, if_neg (show ¬ (i : Int) < (t.size : Int) by omega)] at e
    rw [show items t 0 i = [] from rfl, List.map_nil, List.append_nil]
    exact Ev2.ret e
  | succ m ih =>
    intro i out hi ho hle
    have e := fun k j => spec_l01Points_L3.eq t (i : Int) out k j
    simp only [W, W1, W2, W3, List.length_cons, List.length_nil, if_pos (show ((out.length : Int) + ((0 + 1 : Nat) : Int)) * 8 < 140737488355328 by omega)] at e
    by_cases c : i < t.size
    · obtain ⟨w1, w2⟩ := wid_pos t i c
      simp only [if_pos (show (i : Int) < (t.size : Int) by omega)] at e
      have hv := nx_val t i c
      have hw : (nx t i).2.1 = ((wid t i : Nat) : Int) := nx_size t i c
      have hadd : addI .i64 (i : Int) (nx t i).2.1 = ((i + wid t i : Nat) : Int) := by rw [hw, addI_i64 (by omega) (by omega)]; omega
      rw [show items t (m + 1) i = item t i :: items t m (i + wid t i) from if_pos c]
      have h := ih (i + wid t i) (out ++ [(nx t i).1]) (by omega) (by simp; omega) (by omega)
      refine Ev2.step e (Ev2.bind (nx_ev t i ht c) ?_)
      simp only [hadd]
      rw [hv] at h ⊢
      simpa [item] using h
    · simp only [if_neg (show ¬ (i : Int) < (t.size : Int) by omega)] at e
      rw [show items t (m + 1) i = [] from if_neg c, List.map_nil, List.append_nil]
      exact Ev2.ret e
theorem specPts (t : ByteArray) (ht : t.size ≤ 1048576) : Ev (fun k => spec_l01Points k t) (pts t) :=
  Ev.step (fun k => spec_l01Points.eq t k) (specPts_loop t ht t.size 0 [] (by omega) (Nat.le_refl _) (Nat.zero_le _)).ev
/-- is a text of few points -/
def few (s : ByteArray) : Bool := decide (s.size ≤ 65536) && decide ((pts s).length ≤ 1000)
theorem specFew (s : ByteArray) : ∃ l, Ev (fun k => spec_l09Few k s) (l, few s) := by
  have e := fun k => spec_l09Few.eq s k
  simp only [W, W1, W2, W3] at e
  unfold few
  by_cases c : s.size ≤ 65536
  · simp only [if_neg (show ¬ (65536 : Int) < (s.size : Int) by omega)] at e
    refine ⟨pts s, ?_⟩
    rw [decide_eq_true c, Bool.true_and, show decide ((pts s).length ≤ 1000) = decide (((pts s).length : Int) ≤ 1000) from decide_eq_decide.2 (by omega)]
    exact Ev.step e (Ev.bind (specPts s (by omega)) (Ev.now _))
  · simp only [if_pos (show (65536 : Int) < (s.size : Int) by omega)] at e
    rw [decide_eq_false c, Bool.false_and]
    exact ⟨[], Ev.ret e⟩
theorem implMany (s : ByteArray) : Ev (fun k => impl_tooMany k s) (!few s) := by
  have e := fun k => impl_tooMany.eq s k
  have eL := fun k => impl_long.eq s k
  simp only [W, W1, W2, W3] at e eL
  have hL : Ev (fun k => impl_long k s) (decide ((65536 : Int) < (s.size : Int))) := Ev.ret eL
  refine Ev.step e (Ev.bind hL ?_)
  unfold few
  by_cases c : s.size ≤ 65536
  · simp only [decide_eq_false (show ¬ (65536 : Int) < (s.size : Int) by omega), W1]
    refine Ev.bind (implPoints s (by omega)) ?_
    rw [decide_eq_true c, Bool.true_and, show (!decide ((pts s).length ≤ 1000)) = decide ((1000 : Int) < ((pts s).length : Int)) by
      rw [← decide_not]; exact decide_eq_decide.2 (by omega)]
    exact Ev.now _
  · simp only [decide_eq_true (show (65536 : Int) < (s.size : Int) by omega), W1]
    rw [decide_eq_false c, Bool.false_and]
    exact Ev.now _
/-- what Justified answers -/
def just (s : ByteArray) (w : Int) : ByteArray :=
  if few s = true then
    if w < 0 then bs [] else if 1000 < w then bs [] else if gaps s = [] then s else if w - wide s ≤ 0 then s else
      jl s ((w - wide s).toNat / (gaps s).length) ((w - wide s).toNat % (gaps s).length) 0 0 (gaps s) (bs [])
  else bs []
theorem rem_nat (a b : Nat) : remI (a : Int) (b : Int) = ((a % b : Nat) : Int) := by
  rw [remI_eq, Int.tmod_eq_emod_of_nonneg (by omega)]; rfl
theorem quo_nat (a b : Nat) (h : a ≤ 1000000) : quoI .i64 (a : Int) (b : Int) = ((a / b : Nat) : Int) := by
  have := Nat.div_le_self a b
  rw [quoI_eq, Int.tdiv_eq_ediv_of_nonneg (by omega), ← Int.natCast_ediv]
  generalize a / b = c at *
  exact wrap_i64 (by omega) (by omega)
theorem bs_app (x : ByteArray) : bs [] ++ x = x := by
  show ByteArray.empty ++ x = x
  exact ByteArray.empty_append
theorem gaps_up0 (s : ByteArray) : Up s.size 0 (gaps s) := gaps_up s (s.size - 1) 1 0 (by omega) (by omega) (Nat.le_refl _)
theorem jl_ok (s : ByteArray) (x : Nat) (hx : x ≤ 1000) (hf : s.size ≤ 4000) (i : Nat) : (jl s (x / (gaps s).length) (x % (gaps s).length) i 0 (gaps s) (bs [])).size ≤ 65536 := by
  have h := jl_size s (x / (gaps s).length) (x % (gaps s).length) (gaps s) i 0 (bs []) (gaps_up0 s)
  have hl := gaps_len s
  have hm : (gaps s).length * (x / (gaps s).length) ≤ x := Nat.mul_div_le x _
  rw [Nat.mul_succ, show (bs []).size = 0 from rfl] at h
  omega
theorem specJust (s : ByteArray) (w : Int) : Ev (fun k => spec_Justified k s w) (just s w) := by
  have e := fun k => spec_Justified.eq s w k
  simp only [spec_Justified_J4.eq] at e
  simp only [W, W1, W2, W3] at e
  obtain ⟨l, hf⟩ := specFew s
  refine Ev.step e (Ev.bind hf ?_)
  unfold just
  cases hfew : few s with
  | false =>
    simp only [W1, Bool.false_eq_true, if_false, Bool.not_false]
    exact Ev.now _
  | true =>
    simp only [W1, if_true, Bool.not_true]
    have hfew' := hfew
    unfold few at hfew'
    rw [Bool.and_eq_true, decide_eq_true_eq, decide_eq_true_eq] at hfew'
    have h4 := pts_four s
    by_cases c1 : w < 0
    · simp only [if_pos c1]; exact Ev.now _
    by_cases c2 : 1000 < w
    · simp only [if_neg c1, if_pos c2]; exact Ev.now _
    simp only [if_neg c1, if_neg c2]
    obtain ⟨r1, r2⟩ := wide_range s hfew'.1
    have hsub : subI .i64 w (wide s) = w - wide s := subI_i64 (by omega) (by omega)
    refine Ev.bind (specGaps s (by omega)) (Ev.bind (specWide s hfew'.1) ?_)
    simp only [hsub]
    by_cases c3 : gaps s = []
    · rw [if_pos c3]
      simp only [if_pos (show ((gaps s).length : Int) = 0 by rw [c3]; rfl)]
      exact Ev.now _
    · rw [if_neg c3]
      have hn0 : (gaps s).length ≠ 0 := fun h => c3 (List.length_eq_zero_iff.1 h)
      simp only [if_neg (show ¬ ((gaps s).length : Int) = 0 by omega)]
      by_cases c4 : w - wide s ≤ 0
      · simp only [if_pos c4]; exact Ev.now _
      · simp only [if_neg c4]
        have hx : w - wide s = (((w - wide s).toNat : Nat) : Int) := by omega
        have hx1 : (w - wide s).toNat ≤ 1000 := by omega
        rw [hx, Int.toNat_natCast]
        generalize (w - wide s).toNat = x at *
        have hq : x / (gaps s).length ≤ 1000 := Nat.le_trans (Nat.div_le_self _ _) hx1
        have h := (spec_just_loop s (gaps s) x (x / (gaps s).length) (x % (gaps s).length) hfew'.1 (by have := gaps_len s; omega) hq (rem_nat _ _) (quo_nat _ _ (by omega)) (gaps s) [] 0 (bs []) rfl (gaps_up0 s) (Nat.zero_le _)).ev
        exact h
theorem implJust (s : ByteArray) (w : Int) : Ev (fun k => impl_Justified k s w) (just s w) := by
  have e := fun k => impl_Justified.eq s w k
  simp only [W, W1, W2, W3] at e
  refine Ev.step e (Ev.bind (implMany s) ?_)
  unfold just
  cases hfew : few s with
  | false =>
    simp only [W1, Bool.false_eq_true, if_false, Bool.not_false]
    exact Ev.now _
  | true =>
    simp only [W1, if_true, Bool.not_true]
    have hfew' := hfew
    unfold few at hfew'
    rw [Bool.and_eq_true, decide_eq_true_eq, decide_eq_true_eq] at hfew'
    have h4 := pts_four s
    by_cases c1 : w < 0
    · simp only [if_pos c1]; exact Ev.now _
    by_cases c2 : 1000 < w
    · simp only [if_neg c1, if_pos c2]; exact Ev.now _
    simp only [if_neg c1, if_neg c2]
    obtain ⟨r1, r2⟩ := wide_range s hfew'.1
    have hsub : subI .i64 w (wide s) = w - wide s := subI_i64 (by omega) (by omega)
    refine Ev.bind (implWide s hfew'.1) ?_
    by_cases c4 : w < wide s
    · simp only [if_pos c4]
      rw [if_pos (show w - wide s ≤ 0 by omega)]
      by_cases c3 : gaps s = []
      · rw [if_pos c3]; exact Ev.now _
      · rw [if_neg c3]; exact Ev.now _
    · simp only [if_neg c4]
      refine Ev.bind (trimRight_ev s (by omega)) ?_
      have hte := te_le s s.size
      have hsz : (s.extract 0 (te s s.size)).size = te s s.size := by rw [ByteArray.size_extract]; omega
      simp only [hsz]
      have hgs : gapsFrom s (te s s.size - 1) 1 = gaps s := gaps_short s (te s s.size) hte (fun i h1 h2 => te_max s s.size i h1 h2) (s.size - 1) 1 rfl
      have hx : w - wide s = (((w - wide s).toNat : Nat) : Int) := by omega
      have hx1 : (w - wide s).toNat ≤ 1000 := by omega
      have key := rows_loop1 s hfew'.1 w (wide s) (te s s.size) hte (jl s ((w - wide s).toNat / (gaps s).length) ((w - wide s).toNat % (gaps s).length) 0 0 (gaps s) (bs [])) (te s s.size - 1) 1 rfl (Nat.le_refl _) (by omega) (fun hne => by
        rw [hgs] at hne ⊢
        rw [hsub, hx, Int.toNat_natCast]
        generalize (w - wide s).toNat = x at *
        have hq : x / (gaps s).length ≤ 1000 := Nat.le_trans (Nat.div_le_self _ _) hx1
        exact (impl_just_loop s (gaps s) x (x / (gaps s).length) (x % (gaps s).length) hfew'.1 (by have := gaps_len s; omega) hq (rem_nat _ _) (quo_nat _ _ (by omega)) (gaps s) [] 0 (bs []) rfl (gaps_up0 s) (Nat.zero_le _) (jl_ok s x hx1 (by omega) 0)).ev)
      rw [hgs] at key
      have hres : (if gaps s = [] then s else jl s ((w - wide s).toNat / (gaps s).length) ((w - wide s).toNat % (gaps s).length) 0 0 (gaps s) (bs [])) = (if gaps s = [] then s else if w - wide s ≤ 0 then s else jl s ((w - wide s).toNat / (gaps s).length) ((w - wide s).toNat % (gaps s).length) 0 0 (gaps s) (bs [])) := by
        by_cases c3 : gaps s = []
        · rw [if_pos c3, if_pos c3]
        · rw [if_neg c3, if_neg c3]
          by_cases c5 : w - wide s ≤ 0
          · rw [if_pos c5, show (w - wide s).toNat = 0 by omega, Nat.zero_div, Nat.zero_mod, jl_zero s _ _ _ _ (gaps_up0 s), bs_app]
            apply ByteArray.ext; simp [ByteArray.data_extract]
          · rw [if_neg c5]
      rw [← hres]
      exact key.ev
end Go.Proofs.YtlfkoenopdcjmaaDoor.JF
