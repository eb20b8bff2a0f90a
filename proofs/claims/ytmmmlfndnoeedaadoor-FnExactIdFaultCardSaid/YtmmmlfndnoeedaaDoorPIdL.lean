/- IdFault, plainly: the program answers as the reference. -/
import Derived.Test.YtmmmlfndnoeedaaDoorPForm
import Derived.Test.YtmmmlfndnoeedaaDoorPCat
namespace Go.Proofs.YtmmmlfndnoeedaaDoor.ID
open Go.Eng Go.RowKit
set_option linter.unusedVariables false
set_option linter.unusedSimpArgs false
def isL (p : Int) : Bool := decide (4 ≤ cat p ∧ cat p ≤ 7)
theorem implLet {p : Int} (h : Pt p) : Ev (fun k => impl_isLetter k p) (isL p) :=
  Ev.step (fun k => impl_isLetter.eq p k) (Ev.opt (implCategory p h.1 h.2) (Ev.opt (in_dec _ 4 7) (Ev.now _)))
theorem implMk {p : Int} (h : Pt p) : Ev (fun k => impl_isMark k p) (decide (cat p = 3)) := by
  refine Ev.step (fun k => impl_isMark.eq p k) (Ev.opt (implCategory p h.1 h.2) ?_)
  simp only [W]
  exact Ev.now _
theorem implDg {p : Int} (h : Pt p) : Ev (fun k => impl_isDigit k p) (decide (cat p = 8)) := by
  refine Ev.step (fun k => impl_isDigit.eq p k) (Ev.opt (implCategory p h.1 h.2) ?_)
  simp only [W]
  exact Ev.now _
theorem specLet {p : Int} (h : Pt p) : Ev (fun k => spec_l19Letter k p) (isL p) := by
  have e := fun k => spec_l19Letter.eq p k
  simp only [W, W1, W3] at e
  refine Ev.step e (Ev.bind (specCat p h.1 h.2) ?_)
  unfold isL
  refine Ev.of fun _ => ?_
  by_cases c4 : cat p = 4
  · rw [if_pos c4, decide_eq_true (by omega)]
  by_cases c5 : cat p = 5
  · rw [if_neg c4, if_pos c5, decide_eq_true (by omega)]
  by_cases c6 : cat p = 6
  · rw [if_neg c4, if_neg c5, if_pos c6, decide_eq_true (by omega)]
  · rw [if_neg c4, if_neg c5, if_neg c6]
    congr 1
    exact decide_eq_decide.2 ⟨fun h => by omega, fun h => by omega⟩
/-- may stand behind the first -/
def okI (p : Int) : Bool := isL p || (decide (cat p = 3) || (decide (cat p = 8) || decide (p = 95)))
theorem implId_loop (l : List Int) (hl : l.length ≤ 1048576) (hp : ∀ x ∈ l, Pt x) : ∀ (suf pre : List Int), l = pre ++ suf → Ev2 (fun k j => impl_IdFault_L7 k j (l.length : Int) (pre.length : Int) l) (if (suf.all okI && (decide (pre ≠ []) || (suf.head?.map isL).getD true)) = true then 0 else 1)
  | [], pre, hs => by
    refine Ev2.ret fun k j => ?_
    rw [impl_IdFault_L7.eq, hs]
    simp only [W, W1]
    rw [if_neg (end_nlt pre)]
    simp
  | p :: suf, pre, hs => by
    have hle : pre.length + 1 ≤ l.length := by rw [hs]; simp
    have hrd : rd l (pre.length : Int) 0 = p := by rw [hs]; exact rd_mid pre suf p _
    have hpp := hp p (by rw [hs]; simp)
    have e := fun k j => impl_IdFault_L7.eq (l.length : Int) (pre.length : Int) l k j
    simp only [W, W1, W2, W3, hrd, if_pos (nat_ge _), if_pos (show (pre.length : Int) < (l.length : Int) by omega), next_i pre p (by omega)] at e
    have ih := implId_loop l hl hp suf (pre ++ [p]) (by rw [hs]; simp)
    have ih' : Ev2 (fun k j => impl_IdFault_L7 k j (l.length : Int) (((pre ++ [p]).length : Nat) : Int) l) (if suf.all okI = true then 0 else 1) := by
      rw [show (suf.all okI && (decide (pre ++ [p] ≠ []) || (suf.head?.map isL).getD true)) = suf.all okI by simp] at ih
      exact ih
    refine Ev2.step e (Ev2.bind (implLet hpp) ?_)
    simp only [List.all_cons, List.head?_cons, Option.map_some, Option.getD_some]
    rcases (by cases isL p <;> simp : isL p = true ∨ isL p = false) with hL | hL
    · simp only [hL, W1]
      rw [show (okI p && suf.all okI && (decide (pre ≠ []) || true)) = suf.all okI by simp [okI, hL]]
      exact ih'
    · simp only [hL, W1]
      by_cases c0 : pre = []
      · subst c0
        simp only [List.length_nil, if_pos (show ((0 : Nat) : Int) = 0 by rfl)]
        simp only [ne_eq, not_true_eq_false, decide_false, Bool.or_false, Bool.and_false, Bool.false_eq_true, if_false]
        exact Ev2.now _
      · have hne : pre.length ≠ 0 := fun h => c0 (List.length_eq_zero_iff.1 h)
        simp only [if_neg (show ¬ (pre.length : Int) = 0 by omega)]
        rw [show (okI p && suf.all okI && (decide (pre ≠ []) || false)) = (okI p && suf.all okI) by simp [c0]]
        refine Ev2.bind (implMk hpp) ?_
        by_cases c3 : cat p = 3
        · simp only [decide_eq_true c3, W1]
          rw [show okI p = true by simp [okI, c3], Bool.true_and]; exact ih'
        simp only [decide_eq_false c3, W1]
        refine Ev2.bind (implDg hpp) ?_
        by_cases c8 : cat p = 8
        · simp only [decide_eq_true c8, W1]
          rw [show okI p = true by simp [okI, c8], Bool.true_and]; exact ih'
        simp only [decide_eq_false c8, W1]
        by_cases c95 : p = 95
        · simp only [if_pos c95]
          rw [show okI p = true by simp [okI, c95], Bool.true_and]; exact ih'
        · simp only [if_neg c95]
          rw [show okI p = false by simp [okI, hL, c3, c8, c95], Bool.false_and, if_neg (by simp)]
          exact Ev2.now _
theorem specId_loop (l : List Int) (hl : l.length ≤ 1048576) (hp : ∀ x ∈ l, Pt x) : ∀ (suf pre : List Int), l = pre ++ suf → Ev2 (fun k j => spec_l19Id_L4 k j l (pre.length : Int)) (suf.all okI)
  | [], pre, hs => by
    refine Ev2.ret fun k j => ?_
    rw [spec_l19Id_L4.eq, hs]
    simp only [W, W1, W2]
    rw [if_neg (end_nlt pre)]
    simp
  | p :: suf, pre, hs => by
    have hle : pre.length + 1 ≤ l.length := by rw [hs]; simp
    have hrd : rd l (pre.length : Int) 0 = p := by rw [hs]; exact rd_mid pre suf p _
    have hpp := hp p (by rw [hs]; simp)
    have e := fun k j => spec_l19Id_L4.eq l (pre.length : Int) k j
    simp only [W, W1, W2, W3, hrd, if_pos (nat_ge _), if_pos (show (pre.length : Int) < (l.length : Int) by omega), next_i pre p (by omega)] at e
    have ih := specId_loop l hl hp suf (pre ++ [p]) (by rw [hs]; simp)
    refine Ev2.step e (Ev2.bind (specCat p hpp.1 hpp.2) (Ev2.bind (specLet hpp) ?_))
    rw [List.all_cons]
    rcases (by cases isL p <;> simp : isL p = true ∨ isL p = false) with hL | hL
    · simp only [hL, W1]
      rw [show okI p = true by simp [okI, hL], Bool.true_and]; exact ih
    · simp only [hL, W1]
      by_cases c3 : cat p = 3
      · simp only [if_pos c3]
        rw [show okI p = true by simp [okI, c3], Bool.true_and]; exact ih
      by_cases c8 : cat p = 8
      · simp only [if_neg c3, if_pos c8]
        rw [show okI p = true by simp [okI, c8], Bool.true_and]; exact ih
      by_cases c95 : p = 95
      · simp only [if_neg c3, if_neg c8, if_pos c95]
        rw [show okI p = true by simp [okI, c95], Bool.true_and]; exact ih
      · simp only [if_neg c3, if_neg c8, if_neg c95]
        rw [show okI p = false by simp [okI, hL, c3, c8, c95], Bool.false_and]
        exact Ev2.now _
def idOk (l : List Int) : Bool := decide (1 ≤ l.length ∧ l.length ≤ 100) && (l.all okI && (l.head?.map isL).getD true)
theorem specId (l : List Int) (hp : ∀ x ∈ l, Pt x) : Ev (fun k => spec_l19Id k l) (idOk l) := by
  have e := fun k => spec_l19Id.eq l k
  simp only [W, W1, W2, W3, if_pos (Int.le_refl 0)] at e
  unfold idOk
  by_cases c1 : l.length < 1
  · simp only [if_pos (show (l.length : Int) < 1 by omega)] at e
    rw [decide_eq_false (by omega), Bool.false_and]
    exact Ev.ret e
  by_cases c2 : 100 < l.length
  · simp only [if_neg (show ¬ (l.length : Int) < 1 by omega), if_pos (show (100 : Int) < (l.length : Int) by omega)] at e
    rw [decide_eq_false (by omega), Bool.false_and]
    exact Ev.ret e
  · simp only [if_neg (show ¬ (l.length : Int) < 1 by omega), if_neg (show ¬ (100 : Int) < (l.length : Int) by omega), if_pos (show (0 : Int) < (l.length : Int) by omega)] at e
    rw [decide_eq_true (by omega), Bool.true_and]
    cases l with
    | nil => simp at c1
    | cons p l =>
      have hpp := hp p List.mem_cons_self
      have hr : rd (p :: l) 0 0 = p := rfl
      simp only [hr] at e
      refine Ev.step e (Ev.bind (specLet hpp) ?_)
      simp only [List.head?_cons, Option.map_some, Option.getD_some]
      rcases (by cases isL p <;> simp : isL p = true ∨ isL p = false) with hL | hL
      rotate_left
      · simp only [hL, W1, Bool.and_false]; exact Ev.now _
      · simp only [hL, W1, Bool.and_true]
        exact (specId_loop (p :: l) (by omega) hp (p :: l) [] rfl).ev
def idF (t : ByteArray) : Int := if t.size ≤ 65536 ∧ txt (nrm 4 (ptsT t)) = t ∧ idOk (ptsT t) = true then 0 else 1
theorem txt_nrm (form : Int) (h1 : 1 ≤ form) (h4 : form ≤ 4) (t : ByteArray) (ht : t.size ≤ 65536) : Ev (fun k => impl_norm k form t) (txt (nrm form (ptsT t))) ∧ Ev (fun k => spec_l05Text k form t) (txt (nrm form (ptsT t))) := by
  have hl := ptsT_len t
  have hn := nrm_len form (ptsT t)
  have hp := nrm_pt form (ptsT_pt t)
  constructor
  · have e := fun k => impl_norm.eq form t k
    simp only [W3] at e
    exact Ev.step e (Ev.bind (implPts t (by omega)) (Ev.bind (implNormal form _ (by omega) (ptsT_pt t)) (Ev.bind (implWrite _ (by omega) hp) (Ev.now _))))
  · have e := fun k => spec_l05Text.eq form t k
    simp only [W3] at e
    exact Ev.step e (Ev.bind (specPts t (by omega)) (Ev.bind (specNormal form h1 h4 _ (by omega) (ptsT_pt t)) (Ev.bind (specTxt _ (by omega) hp) (Ev.now _))))
theorem specF (t : ByteArray) (ht : t.size ≤ 1048576) : Ev (fun k => spec_IdFault k t) (idF t) := by
  have e := fun k => spec_IdFault.eq t k
  simp only [W, W1, W3] at e
  have e1 := fun k => spec_IsNormal.eq 4 t k
  simp only [W, W1, W3] at e1
  unfold idF
  by_cases c1 : t.size ≤ 65536
  · simp only [if_pos (show (t.size : Int) ≤ 65536 by omega)] at e1
    have hform : Ev (fun k => spec_l05IsForm k 4) true := by
      refine Ev.ret fun k => ?_
      rw [spec_l05IsForm.eq]
      simp only [W, W1]
      rfl
    have his : Ev (fun k => spec_l05Is k 4 t) (decide (txt (nrm 4 (ptsT t)) = t)) := by
      refine Ev.step (fun k => spec_l05Is.eq 4 t k) (Ev.opt (txt_nrm 4 (by omega) (by omega) t c1).2 ?_)
      simp only [W]
      exact Ev.now _
    have hN : Ev (fun k => spec_IsNormal k 4 t) (decide (txt (nrm 4 (ptsT t)) = t)) := by
      refine Ev.step e1 (Ev.bind hform ?_)
      simp only [W1]
      exact Ev.bind his (Ev.now _)
    refine Ev.step e (Ev.bind hN ?_)
    by_cases c2 : txt (nrm 4 (ptsT t)) = t
    · simp only [decide_eq_true c2, W1]
      refine Ev.bind (specPts t ht) (Ev.bind (specId _ (ptsT_pt t)) ?_)
      rcases (by cases idOk (ptsT t) <;> simp : idOk (ptsT t) = true ∨ idOk (ptsT t) = false) with h | h
      · rw [if_pos ⟨c1, c2, h⟩]; simp only [h, W1]; exact Ev.now _
      · rw [if_neg (fun h' => by rw [h] at h'; cases h'.2.2)]; simp only [h, W1]; exact Ev.now _
    · simp only [decide_eq_false c2, W1]
      rw [if_neg (fun h => c2 h.2.1)]
      exact Ev.now _
  · simp only [if_neg (show ¬ (t.size : Int) ≤ 65536 by omega)] at e1
    rw [if_neg (fun h => c1 h.1)]
    refine Ev.step e (Ev.bind (Ev.ret e1) ?_)
    simp only [W1]
    exact Ev.now _
theorem implF (t : ByteArray) (ht : t.size ≤ 1048576) : Ev (fun k => impl_IdFault k t) (idF t) := by
  have e := fun k => impl_IdFault.eq t k
  simp only [W, W1, W2, W3] at e
  have hlong : Ev (fun k => impl_long k t) (decide (65536 < (t.size : Int))) := Ev.ret fun k => by rw [impl_long.eq]; simp only [W]
  refine Ev.step e (Ev.bind hlong ?_)
  unfold idF
  by_cases c1 : t.size ≤ 65536
  · simp only [decide_eq_false (show ¬ (65536 : Int) < (t.size : Int) by omega), W1]
    have hwell : Ev (fun k => impl_well k t) (Lib.validD t.data.toList) := by
      refine Ev.step (fun k => impl_well.eq t k) (Ev.opt (a := Lib.validD t.data.toList) (Ev.ret fun k => ?_) (Ev.now _))
      show unicode_utf8_ValidString (k + 1) t = _
      have : unicode_utf8_ValidString (k + 1) t = xValid [.str t] [] := by kernel_rfl
      rw [this]
      exact if_pos (by omega)
    refine Ev.bind hwell ?_
    rcases (by cases Lib.validD t.data.toList <;> simp : Lib.validD t.data.toList = true ∨ Lib.validD t.data.toList = false) with hv | hv
    rotate_left
    · simp only [hv, W1]
      rw [if_neg (fun h => by have := valid_txt (nrm 4 (ptsT t)); rw [h.2.1, hv] at this; cases this)]
      exact Ev.now _
    · simp only [hv, W1]
      refine Ev.bind (txt_nrm 4 (by omega) (by omega) t c1).1 ?_
      by_cases c2 : txt (nrm 4 (ptsT t)) = t
      · simp only [if_pos c2]
        refine Ev.bind (implPts t ht) ?_
        have hid : idOk (ptsT t) = (decide (1 ≤ (ptsT t).length ∧ (ptsT t).length ≤ 100) && ((ptsT t).all okI && (decide (([] : List Int) ≠ []) || ((ptsT t).head?.map isL).getD true))) := by
          unfold idOk; simp
        by_cases d1 : (ptsT t).length < 1
        · simp only [if_pos (show ((ptsT t).length : Int) < 1 by omega)]
          rw [if_neg (fun h => by have := h.2.2; rw [hid, decide_eq_false (by omega), Bool.false_and] at this; cases this)]
          exact Ev.now _
        by_cases d2 : 100 < (ptsT t).length
        · simp only [if_neg (show ¬ ((ptsT t).length : Int) < 1 by omega), if_pos (show (100 : Int) < ((ptsT t).length : Int) by omega)]
          rw [if_neg (fun h => by have := h.2.2; rw [hid, decide_eq_false (by omega), Bool.false_and] at this; cases this)]
          exact Ev.now _
        · simp only [if_neg (show ¬ ((ptsT t).length : Int) < 1 by omega), if_neg (show ¬ (100 : Int) < ((ptsT t).length : Int) by omega)]
          have h := (implId_loop (ptsT t) (by omega) (ptsT_pt t) (ptsT t) [] rfl).ev
          rw [hid, decide_eq_true (by omega), Bool.true_and]
          simp only [c1, c2, true_and]
          exact h
      · simp only [if_neg c2]
        rw [if_neg (fun h => c2 h.2.1)]
        exact Ev.now _
  · simp only [decide_eq_true (show (65536 : Int) < (t.size : Int) by omega), W1]
    rw [if_neg (fun h => c1 h.1)]
    exact Ev.now _
theorem pure_FnExactIdFault (t : ByteArray) (h : CT.good .str t) : ∃ k, laws_FnExactIdFault k t = some true := by
  have e := fun k => laws_FnExactIdFault.eq t k
  simp only [W, W1, W3] at e
  refine Ev.has (r := true) (Ev.step e ?_)
  by_cases c : (1048576 : Int) < (t.size : Int)
  · simp only [if_pos c]
    exact Ev.now _
  · simp only [if_neg c]
    refine Ev.bind (specF t (by omega)) (Ev.bind (implF t (by omega)) ?_)
    simp only [if_true]
    exact Ev.now _
end Go.Proofs.YtmmmlfndnoeedaaDoor.ID
