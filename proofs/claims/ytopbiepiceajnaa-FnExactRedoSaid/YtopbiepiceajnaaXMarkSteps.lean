/-
  Marked steps, plainly: marking makes a list of its length and its first number alone, and what was marked is found.
-/
import Derived.Test.YtopbiepiceajnaaQx7
import Derived.Test.YtopbiepiceajnaaXPre
import Derived.Test.YtopbiepiceajnaaXMark
namespace Go.Proofs.Ytopbiepiceajnaa.XMark
open Go.RowKit Go.Proofs.Ytopbiepiceajnaa.Q Go.Proofs.YtopbiepiceajnaaW.PrintWords Go.Proofs.Ytopbiepiceajnaa.XPre
set_option linter.unusedVariables false
set_option linter.unusedSimpArgs false

noncomputable def mk68 (x : Int) : S68 := ⟨x, mt (x + 1), mt (x + 2), x + 3⟩
noncomputable def marked : Nat → Int → List S68
  | 0, _ => []
  | n + 1, x => mk68 x :: marked n (x + 4)
theorem marked_length (n : Nat) : ∀ x, (marked n x).length = n := by
  induction n with
  | zero => intro x; rfl
  | succ n ih => intro x; simp [marked, ih]
theorem markSteps_loop (l : List S68) : ∀ (suf pre : List S68) (x : Int), 0 ≤ x → x + 4 * suf.length ≤ 9000000000000000000 → pre.length + suf.length ≤ 9000000000000000000 →
    Ev (fun k => laws_markStepS.l0 k (pre ++ suf) x (pre.length : Int)) (x + 4 * suf.length, pre ++ marked suf.length x) := by
  intro suf
  induction suf with
  | nil =>
    intro pre x h0 h1 h2
    refine Ev.ret fun k => ?_
    simp only [laws_markStepS.l0]
    rw [if_neg (by simp)]
    simp [marked]
  | cons y suf ih =>
    intro pre x h0 h1 h2
    simp only [List.length_cons] at h1 h2
    have h := ih (pre ++ [mk68 x]) (x + 4) (by omega) (by omega) (by simp; omega)
    have e1 : wrap64 (x + 1) = x + 1 := w64 (by omega) (by omega)
    have e2 : wrap64 (x + 1 + 1) = x + 2 := by rw [w64 (by omega) (by omega)]; omega
    have e3 : wrap64 (x + 2 + 1) = x + 3 := by rw [w64 (by omega) (by omega)]; omega
    have e4 : wrap64 (x + 3 + 1) = x + 4 := by rw [w64 (by omega) (by omega)]; omega
    have e5 : wrap64 ((pre.length : Int) + 1) = ((pre ++ [mk68 x]).length : Int) := by rw [w64 (by omega) (by omega)]; simp
    have g : ∀ z : S68, rd_T68 (pre ++ z :: suf) (pre.length : Int) = z := fun z => getD_mid _ _ _ _
    have st : ∀ z z' : S68, (pre ++ z :: suf).set ((pre.length : Int)).toNat z' = pre ++ z' :: suf := fun z z' => by simp
    have m1 := markText_ev (x + 1) (by omega)
    have m2 := markText_ev (x + 2) (by omega)
    refine Ev.step (f := fun k => (laws_markText.f k (x + 1)).bind fun t => (laws_markText.f k (x + 2)).bind fun u => laws_markStepS.l0 k (pre ++ (⟨x, t, u, x + 3⟩ : S68) :: suf) (x + 4) ((pre ++ [mk68 x]).length : Int)) (fun k => ?_) ?_
    · simp only [laws_markStepS.l0]
      rw [if_pos (by simp; omega), if_pos (by omega)]
      simp only [Option.bind_some, st, g, e1, e2, e3, e4, e5]
    · refine Ev.bind m1 ?_
      refine Ev.bind m2 ?_
      have e : pre ++ (⟨x, mt (x + 1), mt (x + 2), x + 3⟩ : S68) :: suf = (pre ++ [mk68 x]) ++ suf := by simp [mk68]
      simp only [e]
      have er : (x + 4 * ((y :: suf).length : Int), pre ++ marked (y :: suf).length x) = (x + 4 + 4 * (suf.length : Int), (pre ++ [mk68 x]) ++ marked suf.length (x + 4)) := by
        simp [marked]
        omega
      rw [er]
      exact h
theorem markSteps_ev (l : List S68) (x : Int) (h0 : 0 ≤ x) (h1 : x + 4 * l.length ≤ 9000000000000000000) : Ev (fun k => laws_markStepS.f k l x) (x + 4 * l.length, marked l.length x) := by
  have := markSteps_loop l l [] x h0 h1 (by simp; omega)
  simpa [laws_markStepS.f] using this
theorem heldSteps_loop (n : Nat) : ∀ (pre : List S68) (x : Int), 0 ≤ x → x + 4 * n ≤ 9000000000000000000 → pre.length + n ≤ 9000000000000000000 →
    Ev (fun k => laws_heldStepS.l0 k (pre ++ marked n x) x (pre.length : Int)) (x + 4 * n) := by
  induction n with
  | zero =>
    intro pre x h0 h1 h2
    refine Ev.ret fun k => ?_
    simp only [laws_heldStepS.l0]
    rw [if_neg (by simp [marked])]
    simp
  | succ n ih =>
    intro pre x h0 h1 h2
    have h := ih (pre ++ [mk68 x]) (x + 4) (by omega) (by omega) (by simp; omega)
    have e1 : wrap64 (x + 1) = x + 1 := w64 (by omega) (by omega)
    have e2 : wrap64 (x + 1 + 1) = x + 2 := by rw [w64 (by omega) (by omega)]; omega
    have e3 : wrap64 (x + 2 + 1) = x + 3 := by rw [w64 (by omega) (by omega)]; omega
    have e4 : wrap64 (x + 3 + 1) = x + 4 := by rw [w64 (by omega) (by omega)]; omega
    have e5 : wrap64 ((pre.length : Int) + 1) = ((pre ++ [mk68 x]).length : Int) := by rw [w64 (by omega) (by omega)]; simp
    have g : rd_T68 (pre ++ marked (n + 1) x) (pre.length : Int) = mk68 x := getD_mid _ _ _ _
    have m1 := markText_ev (x + 1) (by omega)
    have m2 := markText_ev (x + 2) (by omega)
    refine Ev.step (f := fun k => (laws_markText.f k (x + 1)).bind fun t => if (mt (x + 1)).toList = t.toList then ((laws_markText.f k (x + 2)).bind fun u => if (mt (x + 2)).toList = u.toList then laws_heldStepS.l0 k (pre ++ marked (n + 1) x) (x + 4) ((pre ++ [mk68 x]).length : Int) else none) else none) (fun k => ?_) ?_
    · simp only [laws_heldStepS.l0, g]
      rw [if_pos (by simp [marked_length]; omega), if_pos (by omega)]
      simp only [mk68, e1, e2, e3, e4, e5, if_true]
    · refine Ev.bind m1 ?_
      simp only [if_true]
      refine Ev.bind m2 ?_
      simp only [if_true]
      have e : pre ++ marked (n + 1) x = (pre ++ [mk68 x]) ++ marked n (x + 4) := by simp [marked]
      rw [e]
      have er : x + 4 * ((n + 1 : Nat) : Int) = x + 4 + 4 * (n : Int) := by omega
      rw [er]
      exact h
theorem heldSteps_ev (n : Nat) (x : Int) (h0 : 0 ≤ x) (h1 : x + 4 * n ≤ 9000000000000000000) : Ev (fun k => laws_heldStepS.f k (marked n x) x) (x + 4 * n) := by
  have := heldSteps_loop n [] x h0 h1 (by simp; omega)
  simpa [laws_heldStepS.f] using this
end Go.Proofs.Ytopbiepiceajnaa.XMark
