/-
  HistoryFault, plainly: the program's answer and the reference's are one, for every history.
-/
import Derived.Test.YtopbiepiceajnaaGFnExactHistoryFault
import Derived.Test.YtopbiepiceajnaaXHist
namespace Go.Proofs.Ytopbiepiceajnaa.Pure
open Go.RowKit Go.Proofs.Ytopbiepiceajnaa.Q Go.Proofs.YtopbiepiceajnaaW.PrintWords Go.Proofs.Ytopbiepiceajnaa.XPre Go.Proofs.Ytopbiepiceajnaa.XHist Go.Proofs.Ytopbiepiceajnaa.GFnExactHistoryFault
set_option linter.unusedVariables false
set_option linter.unusedSimpArgs false
theorem implFault_ev (b : ByteArray) (l : List S68) (d : Int) (hl : l.length ≤ 1048576) (hs : ∀ x ∈ l, x.f1.size ≤ 1048576 ∧ x.f2.size ≤ 1048576) : Ev (fun k => impl_HistoryFault.f k b l d) (if valid b l d then 0 else 1) := by
  have h2 := texts_ev b l d hl (fun x hx => (hs x hx).2)
  unfold impl_HistoryFault.f
  refine Ev.bind h2 ?_
  by_cases hv : valid b l d = true
  · obtain ⟨r, _, ht, hlen, _⟩ := valid_scan b l d hv
    rw [if_pos hv, ht]
    have : ¬ (r.length : Int) = 0 := by rw [hlen]; omega
    simp only [this, if_false]
    exact Ev.now _
  · have ht : textsOf b l d = [] := (textsOf_nil b l d).2 (by simpa using hv)
    rw [if_neg hv, ht]
    simp
    exact Ev.now _
theorem FnExactHistoryFault : Pure := by
  intro b l d hb hl hd
  have hs : ∀ x ∈ l, Small x := by
    intro x hx
    obtain ⟨i, hi, rfl⟩ := List.mem_iff_getElem.1 hx
    have := hl.2 i l[i] (List.getElem?_eq_getElem hi)
    exact ⟨this.2.1, this.2.2.1⟩
  obtain ⟨r, hr, hfit⟩ := szHist b l d hb hl.1 hs
  refine Ev.rounds ?_
  unfold laws_FnExactHistoryFault.f
  refine Ev.bind hr ?_
  by_cases c : r < 0
  · simp only [c, if_true]
    exact Ev.now _
  · simp only [c, if_false]
    have hf := hfit (by omega)
    have hl1 : l.length ≤ 1048576 := by unfold Fits at hf; omega
    have hc := fits_conv b l hf
    have hl2 : (l.map conv).length ≤ 1048576 := by simpa using hl1
    refine Ev.bind (toHist b l d hl1) ?_
    refine Ev.bind (specFault_ev b (l.map conv) d hl2 hc) ?_
    refine Ev.bind (toHist b l d hl1) ?_
    refine Ev.bind (implFault_ev b (l.map conv) d hl2 hc) ?_
    simp only [if_true]
    refine Ev.bind (toHist b l d hl1) ?_
    refine Ev.bind (eqHist b (l.map conv) d hl2) ?_
    exact Ev.now _
end Go.Proofs.Ytopbiepiceajnaa.Pure
