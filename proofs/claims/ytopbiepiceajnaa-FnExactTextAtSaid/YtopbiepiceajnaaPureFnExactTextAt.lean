/-
  TextAt, plainly: the program's answer and the reference's are one, for every history and every number.
-/
import Derived.Test.YtopbiepiceajnaaGFnExactTextAt
import Derived.Test.YtopbiepiceajnaaXHist
namespace Go.Proofs.Ytopbiepiceajnaa.Pure
open Go.RowKit Go.Proofs.Ytopbiepiceajnaa.Q Go.Proofs.YtopbiepiceajnaaW.PrintWords Go.Proofs.Ytopbiepiceajnaa.XPre Go.Proofs.Ytopbiepiceajnaa.XHist Go.Proofs.Ytopbiepiceajnaa.GFnExactTextAt
set_option linter.unusedVariables false
set_option linter.unusedSimpArgs false
theorem textAt_same (b : ByteArray) (l : List S68) (d a : Int) (hl : l.length ≤ 1048576) (hs : ∀ x ∈ l, x.f1.size ≤ 1048576 ∧ x.f2.size ≤ 1048576) :
    ∃ v, Ev (fun k => spec_TextAt.f k b l d a) v ∧ Ev (fun k => impl_TextAt.f k b l d a) v := by
  have h1 := specFault_ev b l d hl hs
  have h2 := texts_ev b l d hl (fun x hx => (hs x hx).2)
  by_cases hv : valid b l d = true
  · obtain ⟨r, hr, ht, hlen, hb, _⟩ := valid_scan b l d hv
    rw [if_pos hv] at h1
    rw [ht] at h2
    by_cases c1 : a < 0
    · refine ⟨⟨#[]⟩, ?_, ?_⟩
      · unfold spec_TextAt.f
        refine Ev.bind h1 ?_
        simp only [if_true, c1]
        exact Ev.now _
      · unfold impl_TextAt.f
        refine Ev.bind h2 ?_
        simp only [c1, if_true]
        exact Ev.now _
    · by_cases c2 : a > (l.length : Int)
      · refine ⟨⟨#[]⟩, ?_, ?_⟩
        · unfold spec_TextAt.f
          refine Ev.bind h1 ?_
          simp only [if_true, c1, if_false, c2]
          exact Ev.now _
        · unfold impl_TextAt.f
          refine Ev.bind h2 ?_
          have c3 : a ≥ (r.length : Int) := by rw [hlen]; omega
          simp only [c1, if_false, c3, if_true]
          exact Ev.now _
      · obtain ⟨n, rfl⟩ : ∃ n : Nat, a = n := ⟨a.toNat, by omega⟩
        obtain ⟨u, hu1, hu2⟩ := scan_at l b r n hr (by omega)
        obtain ⟨t', h3, h4⟩ := text_ev b l d n hl (by omega) hs
        have e := h4 u hb hu2
        subst e
        refine ⟨t', ?_, ?_⟩
        · unfold spec_TextAt.f
          refine Ev.bind h1 ?_
          simp only [if_true, c1, if_false, c2]
          refine Ev.bind h3 ?_
          exact Ev.now _
        · unfold impl_TextAt.f
          refine Ev.bind h2 ?_
          have c3 : ¬ (n : Int) ≥ (r.length : Int) := by rw [hlen]; omega
          have c4 : (n : Int) < (r.length : Int) := by omega
          have c5 : (0 : Int) ≤ n := by omega
          have e : rdOf ByteArray.empty r (n : Int) = t' := by
            unfold rdOf
            rw [List.getD_eq_getElem?_getD, Int.toNat_natCast, hu1]
            rfl
          simp only [c1, if_false, c3, c5, c4, if_true, e]
          exact Ev.now _
  · have ht : textsOf b l d = [] := (textsOf_nil b l d).2 (by simpa using hv)
    rw [if_neg hv] at h1
    rw [ht] at h2
    refine ⟨⟨#[]⟩, ?_, ?_⟩
    · unfold spec_TextAt.f
      refine Ev.bind h1 ?_
      simp
      exact Ev.now _
    · unfold impl_TextAt.f
      refine Ev.bind h2 ?_
      by_cases c1 : a < 0
      · simp only [c1, if_true]
        exact Ev.now _
      · have c2 : a ≥ ((([] : List ByteArray)).length : Int) := by simp; omega
        simp only [c1, c2, if_false, if_true]
        exact Ev.now _
theorem FnExactTextAt : Pure := by
  intro b l d a hb hl hd ha
  have hs : ∀ x ∈ l, Small x := by
    intro x hx
    obtain ⟨i, hi, rfl⟩ := List.mem_iff_getElem.1 hx
    have := hl.2 i l[i] (List.getElem?_eq_getElem hi)
    exact ⟨this.2.1, this.2.2.1⟩
  obtain ⟨r, hr, hfit⟩ := szHist b l d hb hl.1 hs
  refine Ev.rounds ?_
  unfold laws_FnExactTextAt.f
  refine Ev.bind hr ?_
  by_cases c : r < 0
  · simp only [c, if_true]
    exact Ev.now _
  · simp only [c, if_false]
    have hf := hfit (by omega)
    have hl1 : l.length ≤ 1048576 := by unfold Fits at hf; omega
    have hc := fits_conv b l hf
    obtain ⟨v, hv1, hv2⟩ := textAt_same b (l.map conv) d a (by simpa using hl1) hc
    refine Ev.bind (toHist b l d hl1) ?_
    refine Ev.bind hv1 ?_
    refine Ev.bind (toHist b l d hl1) ?_
    refine Ev.bind hv2 ?_
    simp only [if_true]
    refine Ev.bind (toHist b l d hl1) ?_
    refine Ev.bind (eqHist b (l.map conv) d (by simpa using hl1)) ?_
    exact Ev.now _
end Go.Proofs.Ytopbiepiceajnaa.Pure
