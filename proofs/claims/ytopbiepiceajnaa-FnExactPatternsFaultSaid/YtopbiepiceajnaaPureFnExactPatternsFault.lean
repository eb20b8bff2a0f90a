/-
  PatternsFault, plainly: the program's answer and the reference's are one.
-/
import Derived.Test.YtopbiepiceajnaaGFnExactPatternsFault
import Derived.Test.YtopbiepiceajnaaXHyphList
import Derived.Test.YtopbiepiceajnaaHx5
import Derived.Test.YtopbiepiceajnaaXPre
namespace Go.Proofs.Ytopbiepiceajnaa.Pure
open Go.RowKit Go.Proofs.Ytopbiepiceajnaa.H Go.Proofs.YtopbiepiceajnaaW.PrintWords Go.Proofs.Ytopbiepiceajnaa.XPre Go.Proofs.Ytopbiepiceajnaa.XHyph Go.Proofs.Ytopbiepiceajnaa.GFnExactPatternsFault
set_option linter.unusedVariables false
set_option linter.unusedSimpArgs false
theorem FnExactPatternsFault : Pure := by
  intro l hl
  have hs : ∀ x ∈ l, x.size ≤ maxLen := by
    intro x hx
    obtain ⟨i, hi, rfl⟩ := List.mem_iff_getElem.1 hx
    exact hl.2 i l[i] (List.getElem?_eq_getElem hi)
  obtain ⟨r, hr, hfit⟩ := szStrs l hl.1 hs
  refine Ev.rounds ?_
  unfold laws_FnExactPatternsFault.f
  refine Ev.bind hr ?_
  by_cases c : r < 0
  · simp only [c, if_true]
    exact Ev.now _
  · simp only [c, if_false]
    obtain ⟨hl1, hs1⟩ := hfit (by omega)
    have hto := toStrs l hl1
    obtain ⟨v, h1, h2⟩ := patterns_same l hl1 hs1
    refine Ev.bind hto ?_
    refine Ev.bind h1 ?_
    refine Ev.bind hto ?_
    refine Ev.bind h2 ?_
    simp only [if_true]
    refine Ev.bind hto ?_
    refine Ev.bind (eqStrs l hl1) ?_
    simp only [if_true]
    exact Ev.now _
end Go.Proofs.Ytopbiepiceajnaa.Pure
