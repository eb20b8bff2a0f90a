/- Classes of code points in characters, plainly. -/
import Derived.Test.YtkkjkpliiinbjaaDoorPCat
namespace Go.Proofs.YtkkjkpliiinbjaaDoor.DF
open Go.Eng Go.RowKit
set_option linter.unusedVariables false
set_option linter.unusedSimpArgs false
def ctl (p : Int) : Bool := decide (cat p = 1) || decide (p = 7954)
def mk (p : Int) : Bool := decide (cat p = 3) || (decide (p = 7936) || decide (7744 ≤ p ∧ p ≤ 7748))
def pic (p : Int) : Bool := decide (7680 ≤ p ∧ p ≤ 7743)
def flg (p : Int) : Bool := decide (7760 ≤ p ∧ p ≤ 7785)
def syl (p : Int) : Bool := decide (12288 ≤ p ∧ p ≤ 23459)
def opn (p : Int) : Bool := syl p && decide ((p - 12288) % 28 = 0)
/-- the class of a point that is neither a control nor a mark -/
def rest (p : Int) : Int :=
  if 1792 ≤ p ∧ p ≤ 1810 then 3 else if 1824 ≤ p ∧ p ≤ 1844 then 4 else if 1857 ≤ p ∧ p ≤ 1883 then 5 else if opn p = true then 6 else if syl p = true then 7 else if pic p = true then 8 else if flg p = true then 9 else 0
def cls (p : Int) : Int := if ctl p = true then 1 else if mk p = true then 2 else rest p
section
variable {p : Int} (hp : 0 ≤ p) (hp2 : p ≤ 1114111)
include hp hp2
theorem specControl : Ev (fun k => spec_l07Control k p) (ctl p) := by
  have e := fun k => spec_l07Control.eq p k
  simp only [W, W1, W3] at e
  refine Ev.step e (Ev.bind (specCat p hp hp2) ?_)
  unfold ctl
  by_cases c : cat p = 1
  · simp only [if_pos c, decide_eq_true c, Bool.true_or]; exact Ev.now _
  · simp only [if_neg c, decide_eq_false c, Bool.false_or]; exact Ev.now _
theorem specMark : Ev (fun k => spec_l07Mark k p) (mk p) := by
  have e := fun k => spec_l07Mark.eq p k
  simp only [W, W1, W3] at e
  refine Ev.step e (Ev.bind (specCat p hp hp2) ?_)
  unfold mk
  by_cases c : cat p = 3
  · simp only [if_pos c, decide_eq_true c, Bool.true_or]; exact Ev.now _
  · simp only [if_neg c, decide_eq_false c, Bool.false_or]
    by_cases c2 : p = 7936
    · simp only [if_pos c2, decide_eq_true c2, Bool.true_or]; exact Ev.now _
    · simp only [if_neg c2, decide_eq_false c2, Bool.false_or]
      by_cases c3 : 7744 ≤ p
      · simp only [if_pos c3]
        rw [show decide (7744 ≤ p ∧ p ≤ 7748) = decide (p ≤ 7748) from decide_eq_decide.2 ⟨fun h => h.2, fun h => ⟨c3, h⟩⟩]
        exact Ev.now _
      · simp only [if_neg c3]
        rw [show decide (7744 ≤ p ∧ p ≤ 7748) = false from decide_eq_false fun h => c3 h.1]
        exact Ev.now _
theorem implMark : Ev (fun k => impl_isMark k p) (decide (cat p = 3)) := by
  have e := fun k => impl_isMark.eq p k
  simp only [W, W1, W3] at e
  exact Ev.step e (Ev.bind (implCategory p hp hp2) (Ev.now _))
end
theorem specPicture (p : Int) : Ev (fun k => spec_l07Picture k p) (pic p) := by
  refine Ev.ret fun k => ?_
  simp only [spec_l07Picture.eq, W, W1]
  unfold pic
  by_cases c : 7680 ≤ p
  · rw [if_pos c]; simp [c]
  · rw [if_neg c]; simp [c]
theorem specFlag (p : Int) : Ev (fun k => spec_l07Flag k p) (flg p) := by
  refine Ev.ret fun k => ?_
  simp only [spec_l07Flag.eq, W, W1]
  unfold flg
  by_cases c : 7760 ≤ p
  · rw [if_pos c]; simp [c]
  · rw [if_neg c]; simp [c]
theorem implSyllable (p : Int) : Ev (fun k => impl_isSyllable k p) (syl p) := by
  have e := fun k => impl_isSyllable.eq p k
  simp only [W3] at e
  exact Ev.step e (Ev.bind (in_ev p 12288 23459) (Ev.now _))
theorem implPicture (p : Int) : Ev (fun k => impl_isPicture k p) (pic p) := by
  have e := fun k => impl_isPicture.eq p k
  simp only [W3] at e
  exact Ev.step e (Ev.bind (in_ev p 7680 7743) (Ev.now _))
theorem implOpen (p : Int) (hp2 : p ≤ 1114111) : Ev (fun k => impl_isOpen k p) (opn p) := by
  have e := fun k => impl_isOpen.eq p k
  simp only [W, W1, W3, if_neg (show ¬ (28 : Int) = 0 by omega)] at e
  refine Ev.step e (Ev.bind (implSyllable p) ?_)
  unfold opn
  by_cases c : syl p = true
  · have c2 : 12288 ≤ p ∧ p ≤ 23459 := by simpa [syl] using c
    have hr : remI (subI .i64 p 12288) 28 = (p - 12288) % 28 := by rw [subI_i64 (by omega) (by omega), remI_eq, Int.tmod_eq_emod_of_nonneg (by omega)]
    simp only [c, W1, hr, Bool.true_and]; exact Ev.now _
  · have c2 : syl p = false := by simpa using c
    simp only [c2, W1, Bool.false_and]; exact Ev.now _
theorem test_step {p a b : Int} {g1 g2 : Nat → Option Int} {v w : Int} (h1 : Ev g1 v) (h2 : Ev g2 w) : Ev (fun k => (impl_in k p a b).bind fun r => brB r (g1 k) (g2 k)) (if a ≤ p ∧ p ≤ b then v else w) := by
  refine Ev.bind (in_ev p a b) ?_
  by_cases c : a ≤ p ∧ p ≤ b
  · rw [if_pos c]; simp only [decide_eq_true c, W1]; exact h1
  · rw [if_neg c]; simp only [decide_eq_false c, W1]; exact h2
theorem bool_step {f : Nat → Option Bool} {x : Bool} {g1 g2 : Nat → Option Int} {v w : Int} (hf : Ev f x) (h1 : Ev g1 v) (h2 : Ev g2 w) : Ev (fun k => (f k).bind fun r => brB r (g1 k) (g2 k)) (if x = true then v else w) := by
  refine Ev.bind hf ?_
  cases x with
  | true => simp only [W1, if_true]; exact h1
  | false => simp only [W1, Bool.false_eq_true, if_false]; exact h2
theorem class_J4 (p : Int) (hp2 : p ≤ 1114111) (x : Bool) : Ev (fun k => impl_charClass_J4 k p x) (if x = true then 2 else rest p) := by
  have e := fun k => impl_charClass_J4.eq p x k
  simp only [W3] at e
  refine Ev.congr e ?_
  cases x with
  | true => simp only [W1, if_true]; exact Ev.now _
  | false =>
    simp only [W1, Bool.false_eq_true, if_false]
    unfold rest
    have hf : Ev (fun k => impl_in k p 7760 7785) (flg p) := in_ev p 7760 7785
    exact test_step (Ev.now _) (test_step (Ev.now _) (test_step (Ev.now _) (bool_step (implOpen p hp2) (Ev.now _) (bool_step (implSyllable p) (Ev.now _) (bool_step (implPicture p) (Ev.now _) (bool_step hf (Ev.now _) (Ev.now _)))))))
theorem class_J2 (p : Int) (hp : 0 ≤ p) (hp2 : p ≤ 1114111) (x : Bool) : Ev (fun k => impl_charClass_J2 k p x) (if x = true then 1 else if mk p = true then 2 else rest p) := by
  have e := fun k => impl_charClass_J2.eq p x k
  simp only [W, W1, W3] at e
  refine Ev.congr e ?_
  cases x with
  | true => simp only [W1, if_true]; exact Ev.now _
  | false =>
    simp only [W1, Bool.false_eq_true, if_false]
    refine Ev.bind (implMark hp hp2) ?_
    have hT : Ev (fun k => impl_charClass_J4 k p true) 2 := by have := class_J4 p hp2 true; simpa using this
    unfold mk
    by_cases c : cat p = 3
    · simp only [decide_eq_true c, W1, Bool.true_or, if_true]; exact hT
    · simp only [decide_eq_false c, W1, Bool.false_or]
      by_cases c2 : p = 7936
      · simp only [if_pos c2, decide_eq_true c2, Bool.true_or, if_true]; exact hT
      · simp only [if_neg c2, decide_eq_false c2, Bool.false_or]
        exact Ev.bind (in_ev p 7744 7748) (class_J4 p hp2 _)
theorem implClass (p : Int) (hp : 0 ≤ p) (hp2 : p ≤ 1114111) : Ev (fun k => impl_charClass k p) (cls p) := by
  have e := fun k => impl_charClass.eq p k
  simp only [W, W1, W3] at e
  refine Ev.step e (Ev.bind (implCategory p hp hp2) ?_)
  unfold cls ctl
  by_cases c : cat p = 1
  · simp only [if_pos c, decide_eq_true c, Bool.true_or]
    exact class_J2 p hp hp2 true
  · simp only [if_neg c, decide_eq_false c, Bool.false_or]
    exact class_J2 p hp hp2 _
end Go.Proofs.YtkkjkpliiinbjaaDoor.DF
