/- Is there a cut ahead of a point: the program's local function, plainly. -/
import Derived.Test.YtkkjkpliiinbjaaDoorPPart
namespace Go.Proofs.YtkkjkpliiinbjaaDoor.DF
open Go.Eng Go.RowKit
set_option linter.unusedVariables false
set_option linter.unusedSimpArgs false
def f10 (q p c d : Int) (bind pict : Bool) (flags : Int) : Bool :=
  if c = 2 then false else if (1536 ≤ p ∧ p ≤ 1567) ∧ bind = true then false else if q = 7936 ∧ c = 8 ∧ pict = true then false else if c = 9 ∧ d = 9 ∧ flags % 2 = 1 then false else true
def f8 (q p c d : Int) (bind pict : Bool) (flags : Int) : Bool := if (d = 5 ∨ d = 7) ∧ c = 5 then false else f10 q p c d bind pict flags
def f6 (q p c d : Int) (bind pict : Bool) (flags : Int) : Bool := if (d = 4 ∨ d = 6) ∧ (c = 4 ∨ c = 5) then false else f8 q p c d bind pict flags
def f4 (q p c d : Int) (bind pict : Bool) (flags : Int) : Bool := if d = 3 ∧ (c = 3 ∨ c = 4 ∨ c = 6 ∨ c = 7) then false else f6 q p c d bind pict flags
def cutF (q p c d : Int) (bind pict : Bool) (flags : Int) : Bool := if q = 13 ∧ p = 10 then false else if c = 1 ∨ d = 1 then true else f4 q p c d bind pict flags
section
variable (q p c d : Int) (bind pict : Bool) (flags : Int) (hf : 0 ≤ flags)
abbrev tail7 : Int × Int × Int × Int × Bool × Bool × Int := (q, p, c, d, bind, pict, flags)
include hf in
theorem cut_J10 (x : Bool) : Ev (fun k => impl_charCuts_1_J10 k x q p c d bind pict flags) (if x = true then false else f10 q p c d bind pict flags, tail7 q p c d bind pict flags) := by
  have e := fun k => impl_charCuts_1_J10.eq x q p c d bind pict flags k
  have hr : remI flags 2 = flags % 2 := by rw [remI_eq, Int.tmod_eq_emod_of_nonneg hf]
  simp only [impl_charCuts_1_J19.eq] at e
  simp only [W, W1, W3, hr, if_neg (show ¬ (2 : Int) = 0 by omega)] at e
  refine Ev.congr e ?_
  cases x with
  | true => simp only [W1, if_true]; exact Ev.now _
  | false =>
    simp only [W1, Bool.false_eq_true, if_false]
    unfold f10
    by_cases h1 : c = 2
    · simp only [if_pos h1]; exact Ev.now _
    simp only [if_neg h1]
    refine Ev.bind (in_ev p 1536 1567) ?_
    have last : ∀ (v : Bool × (Int × Int × Int × Int × Bool × Bool × Int)), v = (if c = 9 ∧ d = 9 ∧ flags % 2 = 1 then false else true, tail7 q p c d bind pict flags) → (if c = 9 then (if d = 9 then (if flags % 2 = 1 then some (false, q, p, c, d, bind, pict, flags) else some (true, q, p, c, d, bind, pict, flags)) else some (true, q, p, c, d, bind, pict, flags)) else some (true, q, p, c, d, bind, pict, flags)) = some v := fun v hv => by
      subst hv
      by_cases h4 : c = 9
      · by_cases h5 : d = 9
        · by_cases h6 : flags % 2 = 1
          · rw [if_pos h4, if_pos h5, if_pos h6, if_pos ⟨h4, h5, h6⟩]
          · rw [if_pos h4, if_pos h5, if_neg h6, if_neg (fun h => h6 h.2.2)]
        · rw [if_pos h4, if_neg h5, if_neg (fun h => h5 h.2.1)]
      · rw [if_neg h4, if_neg (fun h => h4 h.1)]
    have mid : Ev (fun k => if q = 7936 then (if c = 8 then brB pict (some (false, q, p, c, d, bind, pict, flags)) (if c = 9 then (if d = 9 then (if flags % 2 = 1 then some (false, q, p, c, d, bind, pict, flags) else some (true, q, p, c, d, bind, pict, flags)) else some (true, q, p, c, d, bind, pict, flags)) else some (true, q, p, c, d, bind, pict, flags)) else (if c = 9 then (if d = 9 then (if flags % 2 = 1 then some (false, q, p, c, d, bind, pict, flags) else some (true, q, p, c, d, bind, pict, flags)) else some (true, q, p, c, d, bind, pict, flags)) else some (true, q, p, c, d, bind, pict, flags))) else (if c = 9 then (if d = 9 then (if flags % 2 = 1 then some (false, q, p, c, d, bind, pict, flags) else some (true, q, p, c, d, bind, pict, flags)) else some (true, q, p, c, d, bind, pict, flags)) else some (true, q, p, c, d, bind, pict, flags))) (if q = 7936 ∧ c = 8 ∧ pict = true then false else if c = 9 ∧ d = 9 ∧ flags % 2 = 1 then false else true, tail7 q p c d bind pict flags) := by
      refine Ev.of fun k => ?_
      by_cases h2 : q = 7936
      · by_cases h3 : c = 8
        · cases pict with
          | true => rw [if_pos h2, if_pos h3, if_pos (show q = 7936 ∧ c = 8 ∧ true = true from ⟨h2, h3, rfl⟩)]; simp only [W1]
          | false =>
            rw [if_pos h2, if_pos h3, if_neg (show ¬ (q = 7936 ∧ c = 8 ∧ false = true) from fun h => by cases h.2.2)]
            simp only [W1]
            exact last _ rfl
        · rw [if_pos h2, if_neg h3, if_neg (show ¬ (q = 7936 ∧ c = 8 ∧ pict = true) from fun h => h3 h.2.1)]
          exact last _ rfl
      · rw [if_neg h2, if_neg (show ¬ (q = 7936 ∧ c = 8 ∧ pict = true) from fun h => h2 h.1)]
        exact last _ rfl
    by_cases h0 : 1536 ≤ p ∧ p ≤ 1567
    · simp only [decide_eq_true h0, W1]
      cases bind with
      | true => rw [if_pos (show (1536 ≤ p ∧ p ≤ 1567) ∧ true = true from ⟨h0, rfl⟩)]; simp only [W1]; exact Ev.now _
      | false =>
        rw [if_neg (show ¬ ((1536 ≤ p ∧ p ≤ 1567) ∧ false = true) from fun h => by cases h.2)]
        simp only [W1]
        exact mid
    · simp only [decide_eq_false h0, W1]
      rw [if_neg (show ¬ ((1536 ≤ p ∧ p ≤ 1567) ∧ bind = true) from fun h => h0 h.1)]
      exact mid
include hf in
theorem cut_J8 (x : Bool) : Ev (fun k => impl_charCuts_1_J8 k x q p c d bind pict flags) (if x = true then false else f8 q p c d bind pict flags, tail7 q p c d bind pict flags) := by
  have e := fun k => impl_charCuts_1_J8.eq x q p c d bind pict flags k
  simp only [W, W1, W3] at e
  have hJ := cut_J10 q p c d bind pict flags hf
  refine Ev.congr e ?_
  cases x with
  | true => simp only [W1, if_true]; exact Ev.now _
  | false =>
    simp only [W1, Bool.false_eq_true, if_false]
    unfold f8
    have hd := hJ (decide (c = 5))
    have hn := hJ false
    simp only [decide_eq_true_eq] at hd
    simp only [Bool.false_eq_true, if_false] at hn
    by_cases h1 : d = 5
    · simp only [if_pos h1]
      rw [show (if (d = 5 ∨ d = 7) ∧ c = 5 then false else f10 q p c d bind pict flags) = (if c = 5 then false else f10 q p c d bind pict flags) by simp [h1]]
      exact hd
    · by_cases h2 : d = 7
      · simp only [if_neg h1, if_pos h2]
        rw [show (if (d = 5 ∨ d = 7) ∧ c = 5 then false else f10 q p c d bind pict flags) = (if c = 5 then false else f10 q p c d bind pict flags) by simp [h2]]
        exact hd
      · simp only [if_neg h1, if_neg h2]
        rw [if_neg (show ¬ ((d = 5 ∨ d = 7) ∧ c = 5) from fun h => h.1.elim h1 h2)]
        exact hn
include hf in
theorem cut_J6 (x : Bool) : Ev (fun k => impl_charCuts_1_J6 k x q p c d bind pict flags) (if x = true then false else f6 q p c d bind pict flags, tail7 q p c d bind pict flags) := by
  have e := fun k => impl_charCuts_1_J6.eq x q p c d bind pict flags k
  simp only [W, W1, W3] at e
  have hJ := cut_J8 q p c d bind pict flags hf
  refine Ev.congr e ?_
  cases x with
  | true => simp only [W1, if_true]; exact Ev.now _
  | false =>
    simp only [W1, Bool.false_eq_true, if_false]
    unfold f6
    have ht := hJ true
    have hd := hJ (decide (c = 5))
    have hn := hJ false
    simp only [if_true] at ht
    simp only [decide_eq_true_eq] at hd
    simp only [Bool.false_eq_true, if_false] at hn
    have two : Ev (fun k => if c = 4 then impl_charCuts_1_J8 k true q p c d bind pict flags else impl_charCuts_1_J8 k (decide (c = 5)) q p c d bind pict flags) (if c = 4 ∨ c = 5 then false else f8 q p c d bind pict flags, tail7 q p c d bind pict flags) := by
      by_cases h4 : c = 4
      · simp only [if_pos h4]; rw [if_pos (show c = 4 ∨ c = 5 from .inl h4)]; exact ht
      · simp only [if_neg h4]
        rw [show (if c = 4 ∨ c = 5 then false else f8 q p c d bind pict flags) = (if c = 5 then false else f8 q p c d bind pict flags) by simp [h4]]
        exact hd
    by_cases h1 : d = 4
    · simp only [if_pos h1]
      rw [show (if (d = 4 ∨ d = 6) ∧ (c = 4 ∨ c = 5) then false else f8 q p c d bind pict flags) = (if c = 4 ∨ c = 5 then false else f8 q p c d bind pict flags) by simp [h1]]
      exact two
    · by_cases h2 : d = 6
      · simp only [if_neg h1, if_pos h2]
        rw [show (if (d = 4 ∨ d = 6) ∧ (c = 4 ∨ c = 5) then false else f8 q p c d bind pict flags) = (if c = 4 ∨ c = 5 then false else f8 q p c d bind pict flags) by simp [h2]]
        exact two
      · simp only [if_neg h1, if_neg h2]
        rw [if_neg (show ¬ ((d = 4 ∨ d = 6) ∧ (c = 4 ∨ c = 5)) from fun h => h.1.elim h1 h2)]
        exact hn
include hf in
theorem cut_J4 (x : Bool) : Ev (fun k => impl_charCuts_1_J4 k x q p c d bind pict flags) (if x = true then true else f4 q p c d bind pict flags, tail7 q p c d bind pict flags) := by
  have e := fun k => impl_charCuts_1_J4.eq x q p c d bind pict flags k
  simp only [W, W1, W3] at e
  have hJ := cut_J6 q p c d bind pict flags hf
  refine Ev.congr e ?_
  cases x with
  | true => simp only [W1, if_true]; exact Ev.now _
  | false =>
    simp only [W1, Bool.false_eq_true, if_false]
    unfold f4
    have ht := hJ true
    have hd := hJ (decide (c = 7))
    have hn := hJ false
    simp only [if_true] at ht
    simp only [decide_eq_true_eq] at hd
    simp only [Bool.false_eq_true, if_false] at hn
    by_cases h1 : d = 3
    · simp only [if_pos h1]
      by_cases h3 : c = 3
      · simp only [if_pos h3]; rw [if_pos (show d = 3 ∧ (c = 3 ∨ c = 4 ∨ c = 6 ∨ c = 7) from ⟨h1, .inl h3⟩)]; exact ht
      · by_cases h4 : c = 4
        · simp only [if_neg h3, if_pos h4]; rw [if_pos (show d = 3 ∧ (c = 3 ∨ c = 4 ∨ c = 6 ∨ c = 7) from ⟨h1, .inr (.inl h4)⟩)]; exact ht
        · by_cases h6 : c = 6
          · simp only [if_neg h3, if_neg h4, if_pos h6]; rw [if_pos (show d = 3 ∧ (c = 3 ∨ c = 4 ∨ c = 6 ∨ c = 7) from ⟨h1, .inr (.inr (.inl h6))⟩)]; exact ht
          · simp only [if_neg h3, if_neg h4, if_neg h6]
            rw [show (if d = 3 ∧ (c = 3 ∨ c = 4 ∨ c = 6 ∨ c = 7) then false else f6 q p c d bind pict flags) = (if c = 7 then false else f6 q p c d bind pict flags) by simp [h1, h3, h4, h6]]
            exact hd
    · simp only [if_neg h1]
      rw [if_neg (show ¬ (d = 3 ∧ (c = 3 ∨ c = 4 ∨ c = 6 ∨ c = 7)) from fun h => h1 h.1)]
      exact hn
include hf in
theorem cut_J2 (x : Bool) : Ev (fun k => impl_charCuts_1_J2 k x q p c d bind pict flags) (if x = true then false else if c = 1 ∨ d = 1 then true else f4 q p c d bind pict flags, tail7 q p c d bind pict flags) := by
  have e := fun k => impl_charCuts_1_J2.eq x q p c d bind pict flags k
  simp only [W, W1, W3] at e
  have hJ := cut_J4 q p c d bind pict flags hf
  refine Ev.congr e ?_
  cases x with
  | true => simp only [W1, if_true]; exact Ev.now _
  | false =>
    simp only [W1, Bool.false_eq_true, if_false]
    have ht := hJ true
    have hd := hJ (decide (d = 1))
    simp only [if_true] at ht
    simp only [decide_eq_true_eq] at hd
    by_cases h1 : c = 1
    · simp only [if_pos h1]; rw [if_pos (show c = 1 ∨ d = 1 from .inl h1)]; exact ht
    · simp only [if_neg h1]
      rw [show (if c = 1 ∨ d = 1 then true else f4 q p c d bind pict flags) = (if d = 1 then true else f4 q p c d bind pict flags) by simp [h1]]
      exact hd
include hf in
/-- the program's question ahead of a point p behind q, of the classes c and d -/
theorem implCut : Ev (fun k => impl_charCuts_1 k q p c d bind pict flags) (cutF q p c d bind pict flags, tail7 q p c d bind pict flags) := by
  have e := fun k => impl_charCuts_1.eq q p c d bind pict flags k
  simp only [W, W1, W3] at e
  have hJ := cut_J2 q p c d bind pict flags hf
  refine Ev.step e ?_
  have hd := hJ (decide (p = 10))
  have hn := hJ false
  simp only [decide_eq_true_eq] at hd
  simp only [Bool.false_eq_true, if_false] at hn
  unfold cutF
  by_cases h1 : q = 13
  · simp only [if_pos h1]
    rw [show (if q = 13 ∧ p = 10 then false else if c = 1 ∨ d = 1 then true else f4 q p c d bind pict flags) = (if p = 10 then false else if c = 1 ∨ d = 1 then true else f4 q p c d bind pict flags) by simp [h1]]
    exact hd
  · simp only [if_neg h1]
    rw [if_neg (show ¬ (q = 13 ∧ p = 10) from fun h => h1 h.1)]
    exact hn
end
end Go.Proofs.YtkkjkpliiinbjaaDoor.DF
