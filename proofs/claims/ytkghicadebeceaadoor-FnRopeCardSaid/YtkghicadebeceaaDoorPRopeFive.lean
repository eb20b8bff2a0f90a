/- RopeFault, RopeText, LineAt, Piece, PlaceOfLine, plainly: the program answers as the reference, and leaves the rope as it was. -/
import Derived.Test.YtkghicadebeceaaDoorPRopeQ
namespace Go.Proofs.YtkghicadebeceaaDoor.RF
open Go.Eng Go.RowKit
set_option linter.unusedVariables false
set_option linter.unusedSimpArgs false
/-! ### RopeFault, RopeText -/
theorem pure_FnExactRopeFault (r : List T_siiii) (ms : List T_sib) (h1 : CT.good (.row e_siiii) r) (h2 : CT.good (.row e_sib) ms) : ∃ k, laws_FnExactRopeFault k r ms = some true := by
  refine law_of h1 h2 (fun k => laws_FnExactRopeFault.eq r ms k) (fun h => ?_)
  refine Ev.opt (toRope h) (Ev.opt (specFault h) (Ev.opt (toRope h) (Ev.opt (implFault h) ?_)))
  simp only [W, W1, if_true]
  refine Ev.opt (toRope h) (Ev.opt (eqRope h.l1 h.l2) ?_)
  simp only [W1]
  exact Ev.now _
theorem pure_FnExactRopeText (r : List T_siiii) (ms : List T_sib) (h1 : CT.good (.row e_siiii) r) (h2 : CT.good (.row e_sib) ms) : ∃ k, laws_FnExactRopeText k r ms = some true := by
  refine law_of h1 h2 (fun k => laws_FnExactRopeText.eq r ms k) (fun h => ?_)
  refine Ev.opt (toRope h) (Ev.opt (specShown h) (Ev.opt (toRope h) (Ev.opt (implShown h) ?_)))
  simp only [W, W1, if_true]
  refine Ev.opt (toRope h) (Ev.opt (eqRope h.l1 h.l2) ?_)
  simp only [W1]
  exact Ev.now _
/-! ### Piece -/
noncomputable def pieceOf (r : List T_siiii) (ms : List T_sib) (a b : Int) : ByteArray := if a < 0 then bs [] else if b < a then bs [] else if ((shown r ms).size : Int) < b then bs [] else (shown r ms).extract a.toNat b.toNat
theorem specPiece {r : List T_siiii} {ms : List T_sib} (h : Fits r ms) (a b : Int) : Ev (fun k => spec_Piece k r ms a b) (pieceOf r ms a b) := by
  have e := fun k => spec_Piece.eq r ms a b k
  simp only [W, W1, W3] at e
  refine Ev.step e (Ev.bind (specShown h) ?_)
  unfold pieceOf
  by_cases c1 : a < 0
  · simp only [if_pos c1]; exact Ev.now _
  by_cases c2 : b < a
  · simp only [if_neg c1, if_pos c2]; exact Ev.now _
  by_cases c3 : ((shown r ms).size : Int) < b
  · simp only [if_neg c1, if_neg c2, if_pos c3]; exact Ev.now _
  · simp only [if_neg c1, if_neg c2, if_neg c3, if_pos (show 0 ≤ a by omega), if_pos (show a ≤ b by omega), if_pos (show b ≤ ((shown r ms).size : Int) by omega)]; exact Ev.now _
theorem implPiece {r : List T_siiii} {ms : List T_sib} (h : Fits r ms) (a b : Int) : Ev (fun k => impl_Piece k r ms a b) (pieceOf r ms a b) := by
  have e := fun k => impl_Piece.eq r ms a b k
  simp only [W, W1, W3] at e
  refine Ev.step e (Ev.bind (implShown h) ?_)
  unfold pieceOf
  by_cases c1 : a < 0
  · simp only [if_pos c1]; exact Ev.now _
  by_cases c2 : b < a
  · simp only [if_neg c1, if_pos c2]; exact Ev.now _
  by_cases c3 : ((shown r ms).size : Int) < b
  · simp only [if_neg c1, if_neg c2, if_pos c3]; exact Ev.now _
  · simp only [if_neg c1, if_neg c2, if_neg c3, if_pos (show 0 ≤ a by omega), if_pos (show a ≤ b by omega), if_pos (show b ≤ ((shown r ms).size : Int) by omega)]; exact Ev.now _
theorem pure_FnExactPiece (r : List T_siiii) (ms : List T_sib) (a b : Int) (h1 : CT.good (.row e_siiii) r) (h2 : CT.good (.row e_sib) ms) (h3 : CT.good (.int .i64) a) (h4 : CT.good (.int .i64) b) : ∃ k, laws_FnExactPiece k r ms a b = some true := by
  refine law_of h1 h2 (fun k => laws_FnExactPiece.eq r ms a b k) (fun h => ?_)
  refine Ev.opt (toRope h) (Ev.opt (specPiece h a b) (Ev.opt (toRope h) (Ev.opt (implPiece h a b) ?_)))
  simp only [W, W1, if_true]
  refine Ev.opt (toRope h) (Ev.opt (eqRope h.l1 h.l2) ?_)
  simp only [W1]
  exact Ev.now _
/-! ### LineAt -/
noncomputable def lineOf (r : List T_siiii) (ms : List T_sib) (a : Int) : Int := brB (good r ms) (if a < 0 then -1 else if ((textOf r).size : Int) < a then -1 else (ends ((textOf r).extract 0 a.toNat) : Int)) (-1)
theorem specLine {r : List T_siiii} {ms : List T_sib} (h : Fits r ms) (a : Int) : Ev (fun k => spec_LineAt k r ms a) (lineOf r ms a) := by
  have e := fun k => spec_LineAt.eq r ms a k
  simp only [W, W1, W3] at e
  refine Ev.step e (Ev.bind (specShown h) (Ev.bind (specFault h) ?_))
  unfold lineOf shown
  rcases fault_cases r ms with ⟨h1, h2⟩ | ⟨h1, h2⟩
  · have hs := good_size h1
    rw [h1, h2]
    simp only [if_true, W1]
    by_cases c1 : a < 0
    · simp only [if_pos c1]; exact Ev.now _
    by_cases c3 : ((textOf r).size : Int) < a
    · simp only [if_neg c1, if_pos c3]; exact Ev.now _
    · simp only [if_neg c1, if_neg c3, if_pos (show 0 ≤ a by omega), if_pos (show a ≤ ((textOf r).size : Int) by omega), Int.toNat_zero]
      exact Ev.bind (ends_ev _ (by rw [ByteArray.size_extract]; omega)) (Ev.now _)
  · rw [h1, h2]
    simp only [if_neg (show ¬ (1 : Int) = 0 by omega), W1]
    exact Ev.now _
theorem implLine {r : List T_siiii} {ms : List T_sib} (h : Fits r ms) (a : Int) : Ev (fun k => impl_LineAt k r ms a) (lineOf r ms a) := by
  have e := fun k => impl_LineAt.eq r ms a k
  simp only [W, W1, W3] at e
  refine Ev.step e (Ev.bind (implFault h) ?_)
  unfold lineOf
  rcases fault_cases r ms with ⟨h1, h2⟩ | ⟨h1, h2⟩
  · have hs := good_size h1
    rw [h1, h2]
    simp only [if_true, W1]
    refine Ev.bind (implText r ms h.l1 h.t) ?_
    by_cases c1 : a < 0
    · simp only [if_pos c1]; exact Ev.now _
    by_cases c3 : ((textOf r).size : Int) < a
    · simp only [if_neg c1, if_pos c3]; exact Ev.now _
    · simp only [if_neg c1, if_neg c3, if_pos (show 0 ≤ a by omega), if_pos (show a ≤ ((textOf r).size : Int) by omega), Int.toNat_zero]
      exact Ev.bind (sum_ev _) (Ev.now _)
  · rw [h1, h2]
    simp only [if_neg (show ¬ (1 : Int) = 0 by omega), W1]
    exact Ev.now _
theorem pure_FnExactLineAt (r : List T_siiii) (ms : List T_sib) (a : Int) (h1 : CT.good (.row e_siiii) r) (h2 : CT.good (.row e_sib) ms) (h3 : CT.good (.int .i64) a) : ∃ k, laws_FnExactLineAt k r ms a = some true := by
  refine law_of h1 h2 (fun k => laws_FnExactLineAt.eq r ms a k) (fun h => ?_)
  refine Ev.opt (toRope h) (Ev.opt (specLine h a) (Ev.opt (toRope h) (Ev.opt (implLine h a) ?_)))
  simp only [W, W1, if_true]
  refine Ev.opt (toRope h) (Ev.opt (eqRope h.l1 h.l2) ?_)
  simp only [W1]
  exact Ev.now _
/-! ### PlaceOfLine -/
/-- the place behind the line end that makes the count nought -/
def placeF (t : ByteArray) : Nat → Nat → Int → Int
  | 0, _, _ => -1
  | m + 1, i, n => if B t i = 10 then (if n - 1 = 0 then ((i + 1 : Nat) : Int) else placeF t m (i + 1) (n - 1)) else placeF t m (i + 1) n
theorem specPlace_loop (t : ByteArray) (ht : t.size ≤ 1048576) : ∀ (m i : Nat) (n : Int), i + m = t.size → 1 ≤ n → n ≤ 9223372036854775807 → Ev2 (fun k j => spec_PlaceOfLine_L7 k j n t (i : Int)) (placeF t m i n) := by
  intro m
  induction m with
  | zero =>
    intro i n h1 h2 h3
    refine Ev2.ret fun k j => ?_
    simp only [spec_PlaceOfLine_L7.eq, W, W1]
    rw [if_neg (by omega)]
    rfl
  | succ m ih =>
    intro i n h1 h2 h3
    have e := fun k j => spec_PlaceOfLine_L7.eq n t (i : Int) k j
    have hw : addI .i64 (i : Int) 1 = ((i + 1 : Nat) : Int) := by rw [addI_i64 (by omega) (by omega)]; omega
    have hn : subI .i64 n 1 = n - 1 := subI_i64 (by omega) (by omega)
    simp only [W, W1, bt_B, hw, hn, if_pos (show (i : Int) < (t.size : Int) by omega), if_pos (nat_ge _)] at e
    refine Ev2.step e ?_
    rw [show placeF t (m + 1) i n = if B t i = 10 then (if n - 1 = 0 then ((i + 1 : Nat) : Int) else placeF t m (i + 1) (n - 1)) else placeF t m (i + 1) n from rfl]
    by_cases c : B t i = 10
    · rw [if_pos c]
      simp only [if_pos (show ((B t i : Nat) : Int) = 10 by omega)]
      by_cases c2 : n - 1 = 0
      · rw [if_pos c2]; simp only [if_pos c2]; exact Ev2.now _
      · rw [if_neg c2]; simp only [if_neg c2]; exact ih (i + 1) (n - 1) (by omega) (by omega) (by omega)
    · rw [if_neg c]
      simp only [if_neg (show ¬ ((B t i : Nat) : Int) = 10 by omega)]
      exact ih (i + 1) n (by omega) h2 h3
theorem implPlace_loop (t : ByteArray) (ht : t.size ≤ 1048576) : ∀ (m i : Nat) (n : Int), i + m = t.size → 1 ≤ n → n ≤ 9223372036854775807 → Ev2 (fun k j => impl_PlaceOfLine_L7 k j n t (t.size : Int) (i : Int)) (placeF t m i n) := by
  intro m
  induction m with
  | zero =>
    intro i n h1 h2 h3
    refine Ev2.ret fun k j => ?_
    simp only [impl_PlaceOfLine_L7.eq, W, W1]
    rw [if_neg (by omega)]
    rfl
  | succ m ih =>
    intro i n h1 h2 h3
    have e := fun k j => impl_PlaceOfLine_L7.eq n t (t.size : Int) (i : Int) k j
    have hw : addI .i64 (i : Int) 1 = ((i + 1 : Nat) : Int) := by rw [addI_i64 (by omega) (by omega)]; omega
    have hn : subI .i64 n 1 = n - 1 := subI_i64 (by omega) (by omega)
    simp only [W, W1, bt_B, hw, hn, if_pos (show (i : Int) < (t.size : Int) by omega), if_pos (nat_ge _)] at e
    refine Ev2.step e ?_
    rw [show placeF t (m + 1) i n = if B t i = 10 then (if n - 1 = 0 then ((i + 1 : Nat) : Int) else placeF t m (i + 1) (n - 1)) else placeF t m (i + 1) n from rfl]
    by_cases c : B t i = 10
    · rw [if_pos c]
      simp only [if_pos (show ((B t i : Nat) : Int) = 10 by omega)]
      by_cases c2 : n - 1 = 0
      · rw [if_pos c2]; simp only [if_pos c2]; exact Ev2.now _
      · rw [if_neg c2]; simp only [if_neg c2]; exact ih (i + 1) (n - 1) (by omega) (by omega) (by omega)
    · rw [if_neg c]
      simp only [if_neg (show ¬ ((B t i : Nat) : Int) = 10 by omega)]
      exact ih (i + 1) n (by omega) h2 h3
/-- a number that isn't counted down to nought, wrapped or not -/
theorem implPlace_off (t : ByteArray) (ht : t.size ≤ 1048576) : ∀ (m i : Nat) (n : Int), i + m = t.size → -9223372036854775808 ≤ n → n ≤ 9223372036854775807 → (n < 0 ∨ (m : Int) < n) → Ev2 (fun k j => impl_PlaceOfLine_L7 k j n t (t.size : Int) (i : Int)) (-1) := by
  intro m
  induction m with
  | zero =>
    intro i n h1 h2 h3 h4
    refine Ev2.ret fun k j => ?_
    simp only [impl_PlaceOfLine_L7.eq, W, W1]
    rw [if_neg (by omega)]
  | succ m ih =>
    intro i n h1 h2 h3 h4
    have e := fun k j => impl_PlaceOfLine_L7.eq n t (t.size : Int) (i : Int) k j
    have hw : addI .i64 (i : Int) 1 = ((i + 1 : Nat) : Int) := by rw [addI_i64 (by omega) (by omega)]; omega
    have hn : ∃ n', subI .i64 n 1 = n' ∧ -9223372036854775808 ≤ n' ∧ n' ≤ 9223372036854775807 ∧ (n' < 0 ∨ (m : Int) < n') := by
      by_cases c : -9223372036854775808 ≤ n - 1
      · exact ⟨n - 1, subI_i64 c (by omega), c, by omega, by omega⟩
      · refine ⟨9223372036854775807, ?_, by omega, by omega, by omega⟩
        have : n = -9223372036854775808 := by omega
        subst this
        rw [subI_eq, IntKind.wrap_i64]
        omega
    obtain ⟨n', hn, b1, b2, b3⟩ := hn
    simp only [W, W1, bt_B, hw, hn, if_pos (show (i : Int) < (t.size : Int) by omega), if_pos (nat_ge _), if_neg (show ¬ n' = 0 by omega)] at e
    refine Ev2.step e ?_
    by_cases c : ((B t i : Nat) : Int) = 10
    · simp only [if_pos c]; exact ih (i + 1) n' (by omega) b1 b2 b3
    · simp only [if_neg c]; exact ih (i + 1) n (by omega) h2 h3 (by omega)
noncomputable def placeOf (r : List T_siiii) (ms : List T_sib) (n : Int) : Int := brB (good r ms) (if n < 0 then -1 else if n = 0 then 0 else placeF (textOf r) (textOf r).size 0 n) (-1)
theorem specPlace {r : List T_siiii} {ms : List T_sib} (h : Fits r ms) (n : Int) (hn : n ≤ 9223372036854775807) : Ev (fun k => spec_PlaceOfLine k r ms n) (placeOf r ms n) := by
  have e := fun k => spec_PlaceOfLine.eq r ms n k
  simp only [W, W1, W3] at e
  refine Ev.step e (Ev.bind (specFault h) ?_)
  unfold placeOf
  rcases fault_cases r ms with ⟨h1, h2⟩ | ⟨h1, h2⟩
  · have hs := good_size h1
    rw [h1, h2]
    simp only [if_true, W1]
    by_cases c1 : n < 0
    · simp only [if_pos c1]; exact Ev.now _
    · simp only [if_neg c1]
      refine Ev.bind (specText r h.l1 h.t) ?_
      by_cases c2 : n = 0
      · simp only [if_pos c2]; exact Ev.now _
      · simp only [if_neg c2]
        exact (specPlace_loop (textOf r) h.t (textOf r).size 0 n (by omega) (by omega) hn).ev
  · rw [h1, h2]
    simp only [if_neg (show ¬ (1 : Int) = 0 by omega), W1]
    exact Ev.now _
theorem implPlace {r : List T_siiii} {ms : List T_sib} (h : Fits r ms) (n : Int) (hn0 : -9223372036854775808 ≤ n) (hn : n ≤ 9223372036854775807) : Ev (fun k => impl_PlaceOfLine k r ms n) (placeOf r ms n) := by
  have e := fun k => impl_PlaceOfLine.eq r ms n k
  simp only [W, W1, W3] at e
  refine Ev.step e (Ev.bind (implFault h) ?_)
  unfold placeOf
  rcases fault_cases r ms with ⟨h1, h2⟩ | ⟨h1, h2⟩
  · have hs := good_size h1
    rw [h1, h2]
    simp only [if_true, W1]
    refine Ev.bind (implText r ms h.l1 h.t) ?_
    by_cases c2 : n = 0
    · simp only [if_pos c2, if_neg (show ¬ n < 0 by omega)]; exact Ev.now _
    · simp only [if_neg c2]
      by_cases c1 : n < 0
      · simp only [if_pos c1]
        exact (implPlace_off (textOf r) h.t (textOf r).size 0 n (by omega) hn0 hn (.inl c1)).ev
      · simp only [if_neg c1]
        exact (implPlace_loop (textOf r) h.t (textOf r).size 0 n (by omega) (by omega) hn).ev
  · rw [h1, h2]
    simp only [if_neg (show ¬ (1 : Int) = 0 by omega), W1]
    exact Ev.now _
theorem pure_FnExactPlaceOfLine (r : List T_siiii) (ms : List T_sib) (n : Int) (h1 : CT.good (.row e_siiii) r) (h2 : CT.good (.row e_sib) ms) (h3 : CT.good (.int .i64) n) : ∃ k, laws_FnExactPlaceOfLine k r ms n = some true := by
  have hb := wf64 h3
  refine law_of h1 h2 (fun k => laws_FnExactPlaceOfLine.eq r ms n k) (fun h => ?_)
  refine Ev.opt (toRope h) (Ev.opt (specPlace h n hb.2) (Ev.opt (toRope h) (Ev.opt (implPlace h n hb.1 hb.2) ?_)))
  simp only [W, W1, if_true]
  refine Ev.opt (toRope h) (Ev.opt (eqRope h.l1 h.l2) ?_)
  simp only [W1]
  exact Ev.now _
#print axioms pure_FnExactPlaceOfLine
end Go.Proofs.YtkghicadebeceaaDoor.RF
